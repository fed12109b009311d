/- Walk: cutUp of the program. -/
import Derived.Test.YtbjeibcombjfgaaQf10
import Derived.Test.YtbjeibcombjfgaaQf12
import Derived.Test.YtbjeibcombjfgaaQf21
import Derived.Deep.CutRange
import Derived.Deep.DeepCutAuto
set_option maxRecDepth 100000
set_option linter.unusedVariables false
set_option linter.unusedSimpArgs false
namespace Go.Proofs.Ytbjeibcombjfgaa
open Go.RowKit

abbrev tP2 : TypeId := 133
theorem T_pair : ElemK Try.prog 132 133 (.agg #[.int .i64 0, .int .i64 0]) 2 16 := ⟨Try.underlying132, by kernel_rfl, rfl, by omega, by omega⟩
def pairC (p : Nat × Nat) : List Value := [.int .i64 (p.1 : Int), .int .i64 (p.2 : Int)]

theorem NW.start {w : World} {B g0 g1 n : Nat} {P : Value} {ps zs : List Int} (hP : OwnInts w B tN P ps) (hn : Own w B tNL (.slice (some ⟨g0, 0, none⟩) n n) (List.replicate n (.slice none 0 0))) (hT : OwnInts w B tN (.slice (some ⟨g1, 0, none⟩) n n) zs) (hap : Apart P (.slice (some ⟨g1, 0, none⟩) n n)) :
    NW w B g0 n (List.replicate n (.slice none 0 0)) (List.replicate n []) [P, .slice (some ⟨g1, 0, none⟩) n n] [ps, zs] := by
  refine ⟨hn, by simp, by simp, ?_⟩
  have h0 := Fam.nils w B tN n
  have h1 := h0.snoc hP fun j u' hj => by
    have := List.mem_of_getElem? hj
    have := List.eq_of_mem_replicate this
    subst this
    exact .inl rfl
  have h2 := h1.snoc hT fun j u' hj => by
    have := List.mem_of_getElem? hj
    rcases List.mem_append.1 this with h | h
    · have := List.eq_of_mem_replicate h
      subst this
      exact .inl rfl
    · simp at h; subst h; exact hap
  simpa [List.map_replicate, up] using h2
theorem ownInts_zeros {w : World} {B n : Nat} {v : Value} (h : Own w B tN v (List.replicate n (.int .i64 0))) : OwnInts w B tN v (up (List.replicate n 0)) := by
  refine ⟨by simpa [ints, up, List.map_replicate] using h, fun z hz => ?_⟩
  simp [up] at hz
  rw [hz.2]; unfold In64; omega

theorem own_made1 (W : World) (o : Obj) (e : TypeId) (z : Value) (n : Nat) (hn : n ≤ maxLen) : Own ((W.alloc o).alloc (.cells (madeCells #[z] n) e)) W.heap.size e (.slice (some ⟨W.heap.size + 1, 0, none⟩) n n) (List.replicate n z) := by
  have h := own_made (W.alloc o) e z n hn
  rw [size_alloc'] at h
  exact h.mono (Nat.le_succ _)

theorem BT.ne_blk {w : World} {e t : TypeId} {v : Value} {p : Nat} {cs : Array Value} (h : BT w e v) (hk : Blk w p t cs) (hne : e ≠ t) : v.ownBlock ≠ some p := by
  intro hb
  rcases h with h | ⟨g, cur, fz, h, hg⟩
  · rw [h] at hb; cases hb
  · rw [h] at hb
    injection hb with hb
    subst hb
    have h2 : w.heap[g]? = some (.cells cs t (0, 0)) := hk
    rw [hg] at h2
    injection h2 with h2
    injection h2 with _ h2
    exact hne h2
theorem Blk.kept {w w' : World} {p : Nat} {t : TypeId} {cs : Array Value} {row : Option Nat} (h : Blk w p t cs) (hg : w.grownBy w' row) (hne : row ≠ some p) : Blk w' p t cs :=
  (hg.block p h.lt (fun e => hne e.symm)).trans h
theorem RR.keptBT {w w' : World} {B : Nat} {vs : List Value} {xss : List (List Int)} {v : Value} {e : TypeId} (h : RR w B vs xss) (hg : w.grownBy w' v.ownBlock) (hb : BT w e v) (hne : tI ≠ e) : RR w' B vs xss :=
  ⟨h.1, fun k u zs hu hz => (h.2 k u zs hu hz).kept hg ((h.2 k u zs hu hz).1.bt.ne hb hne)⟩
/-- what is read only: the pieces, the joints -/
structure Psg (w : World) (B B2 : Nat) (pv : Value) (vp : List Value) (pcs : List (List Nat)) (bv : Value) (bs : List (Nat × Nat)) : Prop where
  po : Own w B tL pv vp
  pr : RR w B vp (pcs.map up)
  pk : OwnK w B2 tP2 2 bv (bs.map pairC)
theorem Psg.below {w w' : World} {B B2 : Nat} {pv bv : Value} {vp : List Value} {pcs : List (List Nat)} {bs : List (Nat × Nat)} (h : Psg w B B2 pv vp pcs bv bs) (hb : Below w.heap.size w w') : Psg w' B B2 pv vp pcs bv bs := ⟨h.po.below hb, h.pr.below hb, h.pk.below hb⟩
theorem Psg.kept {w w' : World} {B B2 : Nat} {pv bv : Value} {vp : List Value} {pcs : List (List Nat)} {bs : List (Nat × Nat)} {v : Value} {e : TypeId} (h : Psg w B B2 pv vp pcs bv bs) (hg : w.grownBy w' v.ownBlock) (hb : BT w e v) (h1 : tL ≠ e) (h2 : tI ≠ e) (h3 : tP2 ≠ e) : Psg w' B B2 pv vp pcs bv bs :=
  ⟨h.po.kept hg (h.po.bt.ne hb h1), h.pr.keptBT hg hb h2, h.pk.kept hg (h.pk.bt.ne hb h3)⟩

theorem getD_set_ne' (zn : List Nat) (x : Nat) {j k : Nat} (h : j ≠ k) : (zn.set j x).getD k 0 = zn.getD k 0 := by simp [List.getD, List.getElem?_set_ne h]
theorem getD_set_eq' {zn : List Nat} (x : Nat) {j : Nat} (h : j < zn.length) : (zn.set j x).getD j 0 = x := by simp [List.getD, List.getElem?_set_self h]

/-- pieces of one's own and a list of one's own, all rows apart -/
def FSK (w : World) (B : Nat) (x y : Value) (xss : List (List Int)) (zs : List Int) : Prop := ∃ vs, Own w B tL x vs ∧ RR w B vs xss ∧ (vs ++ [y]).Pairwise Apart ∧ OwnInts w B tI y zs
set_option maxHeartbeats 16000000 in
theorem i_cutUpA (w : World) (v : Value) (t : List Nat) (m : Nat) (ha : Ints w v (up t)) (hlv : lvl t = true) (h8 : t.length ≤ 8) (hcan : canO 9 t = some t) (hm : m < 2 ^ t.length) (h2 : m % 2 = 0) (hl : ∀ l ∈ t, l ≤ 1000000) :
    Calls Try.prog 97 #[v, .int .i64 m] w fun e w' => ∃ x y pcs r, e = .returned (.tuple #[x, y]) ∧ mapO (fun i => canO 9 (pieN t m i)) (0 :: cutsN m (t.length - 1) 1) = some pcs ∧ canO 9 (sklN t m) = some r ∧
      FSK w' w.heap.size x y ((srtB pcs).map up) (up r) ∧ Below w.heap.size w w' := by
  have HA := Lib.hid ha
  have HL := Lib.hid hl
  have HOK := Lib.hid (cut_parts (cut_ok hlv h8 hcan hm h2))
  have HM := Lib.hid hm
  obtain ⟨A, c, rfl, l1, l2, -⟩ := ha.open_
  rw [up_len] at l1 HA ⊢
  clear ha hl hlv hcan hm h2
  go_enter Try.func97, Try.ntmps97
  go_upto_region 2 with (go_at_call 146; refine (i_parentsOf _ _ t HA.out (by omega) HL.out).mono ?_; rintro e w1 ⟨x, rfl, hx, hb1⟩; obtain ⟨A1, c1, he1, -, -, -⟩ := hx.ints.open_; rw [pzTo_len] at he1; subst he1; have HP := Lib.hid hx; have HB1 := Lib.hid hb1; clear hx hb1)
  go_cut [7, 8] (fun near top wx => ∃ g0 g1, near = .slice (some ⟨g0, 0, none⟩) t.length t.length ∧ top = .slice (some ⟨g1, 0, none⟩) t.length t.length ∧
    NW wx w.heap.size g0 t.length (List.replicate t.length (.slice none 0 0)) (List.replicate t.length []) [.slice A1 t.length c1, .slice (some ⟨g1, 0, none⟩) t.length t.length] [pzTo t t.length, up (List.replicate t.length 0)] ∧ Below w.heap.size w wx)
  case first =>
    have hmk1 : ∀ W : World, (Instr.makeSlice 124 (.int .i64 (t.length : Int)) (.int .i64 (t.length : Int))).run Try.prog W = .ok (.slice (some ⟨W.heap.size, 0, none⟩) t.length t.length) (W.alloc (.cells (madeCells #[.slice none 0 0] t.length) tNL)) := fun W => run_make T_nrow t.length (by omega) W
    have hmk2 : ∀ W : World, (Instr.makeSlice 44 (.int .i64 (t.length : Int)) (.int .i64 (t.length : Int))).run Try.prog W = .ok (.slice (some ⟨W.heap.size, 0, none⟩) t.length t.length) (W.alloc (.cells (madeCells #[.int .i64 0] t.length) tN)) := fun W => run_make T_nat t.length (by omega) W
    have hb0 : ∀ o o' : Obj, Below w1.heap.size w1 ((w1.drew.alloc o).alloc o') := fun o o' => (((Below.refl _ _).drew).alloc (Nat.le_refl _) _).alloc (by simp) _
    have HN1 := Lib.hid (NW.start (HP.out.below (hb0 _ _)) (((own_made w1.drew tNL (.slice none 0 0) t.length (by simp [maxLen]; omega)).alloc (.cells (madeCells #[.int .i64 0] t.length) tN)).mono HB1.out.size) (ownInts_zeros ((own_made1 w1.drew (.cells (madeCells #[.slice none 0 0] t.length) tNL) tN (.int .i64 0) t.length (by simp [maxLen]; omega)).mono HB1.out.size)) (apart_of_lt HP.out.1.lt (fun b hb => by simp [Value.ownBlock] at hb; omega)))
    have HN2 := Lib.hid (NW.start (HP.out.below (hb0 _ _)) ((own_made1 w1.drew (.cells (madeCells #[.int .i64 0] t.length) tN) tNL (.slice none 0 0) t.length (by simp [maxLen]; omega)).mono HB1.out.size) (ownInts_zeros (((own_made w1.drew tN (.int .i64 0) t.length (by simp [maxLen]; omega)).alloc (.cells (madeCells #[.slice none 0 0] t.length) tNL)).mono HB1.out.size)) (apart_of_lt HP.out.1.lt (fun b hb => by simp [Value.ownBlock] at hb; omega)))
    have HB0 := Lib.hid (fun o o' => HB1.out.trans ((hb0 o o').mono HB1.out.size))
    clear hb0
    go_region_law fail
    all_goals
      clear hmk1 hmk2
      go_wp2_with fail
      go_meet
      first
        | exact ⟨_, _, rfl, rfl, HN1.out, HB0.out _ _⟩
        | exact ⟨_, _, rfl, rfl, HN2.out, HB0.out _ _⟩
  case rest =>
    obtain ⟨g0, g1, rfl, rfl, hnw, hbw⟩ := hcut
    have HN0 := Lib.hid hnw
    have HB0 := Lib.hid hbw
    clear hnw hbw HP HB1
    have HN1 := Lib.hid (HN0.out.snoc (zs := []) (u := .slice (some ⟨wc.heap.size, 0, none⟩) 0 0) ((below1 wc (.cells #[] tN)).trans (below1 (wc.alloc (.cells #[] tN)) (.cells #[] tP2) |>.mono (by simp))) ⟨(own_lit wc tN [] (by simp [maxLen])).alloc _, fun z hz => by simp at hz⟩ HB0.out.size)
    have HK1 := Lib.hid (show OwnK ((wc.alloc (.cells #[] tN)).alloc (.cells #[] tP2)) w.heap.size tP2 2 (.slice (some ⟨wc.heap.size + 1, 0, none⟩) 0 0) [] from by
      have h := OwnK.lit (wc.alloc (.cells #[] tN)) tP2 2 [] (fun c hc => by simp at hc) (by simp [maxLen]) #[] rfl
      rw [size_alloc'] at h
      exact h.mono (Nat.le_trans HB0.out.size (Nat.le_succ _)))
    have HB1 := Lib.hid (HB0.out.trans (((below1 wc (.cells #[] tN)).trans (below1 (wc.alloc (.cells #[] tN)) (.cells #[] tP2) |>.mono (by simp))).mono HB0.out.size))
    clear HN0 HB0
    go_upto_region 4 with fail
    generalize ((wc.alloc (.cells #[] tN)).alloc (.cells #[] tP2)) = w5 at HN1 HK1 HB1 ⊢
    go_wp2_with fail
    go_loopw [9, 10, 31] (fun tv bv x wr => ∃ (j : Nat) (vs : List Value), j ≤ t.length ∧ x = .int .i64 j ∧ NW wr w.heap.size g0 t.length vs (cutTo t m j).near [.slice A1 t.length c1, .slice (some ⟨g1, 0, none⟩) t.length t.length, tv] [pzTo t t.length, up (cutTo t m j).top, up (cutTo t m j).tops] ∧
      OwnK wr w.heap.size tP2 2 bv ((cutTo t m j).bet.map pairC) ∧ Below w.heap.size w wr) (fun _ _ x _ => t.length - (intOf x).toNat)
    case atStart => exact ⟨0, _, Nat.zero_le _, rfl, HN1.out, HK1.out, HB1.out⟩
    case round =>
      obtain ⟨j, vs, hj, rfl, hnw, hkw, hbw⟩ := hrel
      clear HN1 HK1 HB1
      have HN := Lib.hid hnw
      have HK := Lib.hid hkw
      have HB := Lib.hid hbw
      clear hnw hkw hbw
      by_cases hlt : j < t.length
      · have HCI := Lib.hid (cutTo_ci t m j hj)
        have HSC := Lib.hid (cutTo_succ (t := t) (mask := m) hlt)
        have hPj := parN_le t (t.getD j 0) j
        obtain ⟨Ax, cx, hx5, -, -, hp5⟩ := (HN.out.other (k := 0) rfl rfl).ints.open_
        rw [pzTo_len] at hp5
        obtain ⟨ap, zp, rfl, hzp, -, hcp⟩ := hp5 j hlt
        simp only [Value.slice.injEq] at hx5
        obtain ⟨rfl, -, rfl⟩ := hx5
        rw [pzTo_get hlt] at hzp
        injection hzp with hzp
        have hji : (j : Int) < (t.length : Int) := by omega
        have hj0 : (0 : Int) ≤ (j : Int) := by omega
        have hj64 : (j : Int) ≤ 64 := by omega
        generalize hPP : parN t (t.getD j 0) j = P at hzp HSC hPj
        generalize hss : cutTo t m j = s at HN HK HCI HSC
        have htl : j < s.top.length := by rw [HCI.out.top.1]; exact hlt
        obtain ⟨At, ct, hte, -, -, -⟩ := (HN.out.other (k := 2) rfl rfl).ints.open_
        rw [up_len] at hte
        subst hte
        have hts := HCI.out.tops.1
        clear hPP hss hp5
        cases P with
        | zero =>
          have hz1 : zp = -1 := by omega
          subst hz1
          obtain ⟨⟨u0, q1⟩, q2, hp1, hg1, hgb⟩ := HN.out.put (k := 1) (j := j) rfl rfl htl s.tops.length (by omega)
          have HP1 := Lib.hid hp1
          have HB2 := Lib.hid (HB.out.setCell (p := ⟨g1, j, none⟩) hg1 (.int .i64 (s.tops.length : Int)))
          have HK2 := Lib.hid (HK.out.kept hgb (HK.out.bt.ne (v' := .slice (some ⟨g1, 0, none⟩) t.length t.length) (HN.out.other (k := 1) rfl rfl).1.bt (by decide)))
          have HT2 := Lib.hid (HP1.out.other (k := 2) rfl rfl)
          clear hp1 hzp hgb
          go_wp2_with (at_builtin; refine wpList_app1n wr.heap.size (by simp) T_nat (v := .slice At s.tops.length ct) (vs := ints (up s.tops)) HT2.out.1 (by rw [ints_len, up_len]; omega) HB2.out.size (by rfl) rfl (by rfl) (by rfl) (by rfl) ?_; intro v1 w6 hown1 hgr1; have HN6 := Lib.hid (HP1.out.push (k := 2) rfl rfl hown1 (by omega) hgr1); have HK6 := Lib.hid (HK2.out.kept hgr1.1 (HK2.out.bt.ne HT2.out.1.bt (by decide))); have HB6 := Lib.hid (hgr1.below HB2.out HB2.out.size HT2.out.1.ge); clear hown1 hgr1)
          go_roundw
          case rel =>
            have HS2 : cutTo t m (j + 1) = ⟨s.near, s.top.set j s.tops.length, s.tops ++ [j], s.bet⟩ := HSC.out
            refine ⟨j + 1, vs, by omega, by go_num, ?_, ?_, HB6.out⟩
            · rw [HS2]; exact HN6.out
            · rw [HS2]; exact HK6.out
          case measure => simp [intOf]; omega
        | succ k =>
          have hz1 : zp = (k : Int) := by omega
          subst hz1
          have hkj : k < j := by omega
          have hki : (k : Int) < (t.length : Int) := by omega
          have hk0 : (0 : Int) ≤ (k : Int) := by omega
          have hkd : decide ((k : Int) < 0) = false := by simp
          have htk : k < s.top.length := by omega
          have HTL := Lib.hid (HCI.out.topLe k)
          have hq0 := HN.out.num (k := 1) (j := k) rfl rfl htk
          generalize hTK : s.top.getD k 0 = a at hq0 HTL
          have HTK := Lib.hid hTK
          cases hbt : m.testBit j with
          | true =>
            have hbit := cut_bit m j (by have := HM.out; have : 2 ^ t.length ≤ 2 ^ 8 := Nat.pow_le_pow_right (by omega) h8; omega)
            rw [hbt, if_pos rfl] at hbit
            have HBT := Lib.hid hbt
            obtain ⟨⟨u0, q1⟩, q2, hp1, hg1, hgb⟩ := HN.out.put (k := 1) (j := j) rfl rfl htl s.tops.length (by omega)
            have HP1 := Lib.hid hp1
            have HB2 := Lib.hid (HB.out.setCell (p := ⟨g1, j, none⟩) hg1 (.int .i64 (s.tops.length : Int)))
            have HK2 := Lib.hid (HK.out.kept hgb (HK.out.bt.ne (v' := .slice (some ⟨g1, 0, none⟩) t.length t.length) (HN.out.other (k := 1) rfl rfl).1.bt (by decide)))
            have HT2 := Lib.hid (HP1.out.other (k := 2) rfl rfl)
            clear hp1 hzp hgb hbt hTK
            go_upto_region 13 with (at_builtin; refine wpList_app1n wr.heap.size (by simp) T_nat (v := .slice At s.tops.length ct) (vs := ints (up s.tops)) HT2.out.1 (by rw [ints_len, up_len]; omega) HB2.out.size (by rfl) rfl (by rfl) (by rfl) (by rfl) ?_; intro v1 w6 hown1 hgr1; have HN6 := Lib.hid (HP1.out.push (k := 2) rfl rfl hown1 (by omega) hgr1); have HK6 := Lib.hid (HK2.out.kept hgr1.1 (HK2.out.bt.ne HT2.out.1.bt (by decide))); have HB6 := Lib.hid (hgr1.below HB2.out HB2.out.size HT2.out.1.ge); clear hown1 hgr1)
            have e0 := HN6.out.num (k := 1) (j := k) rfl rfl (by simp; omega)
            rw [getD_set_ne' _ _ (by omega), HTK.out] at e0
            have e1 := HN6.out.num (k := 1) (j := j) rfl rfl (by simp; omega)
            rw [getD_set_eq' _ htl] at e1
            have HBL := Lib.hid (show s.bet.length ≤ 1000 from by have := HCI.out.bet.1; omega)
            have HBD := Lib.hid (((Below.refl w6.heap.size w6).drew).alloc (Nat.le_refl _) (.cells #[.int .i64 (a : Nat), .int .i64 (s.tops.length : Nat)] tP2))
            clear q1 q2 hq0
            go_region_law (go_loud (refine step_app1K T_pair (B := w.heap.size) (css := s.bet.map pairC) (c := pairC (a, s.tops.length)) (ad := ⟨w6.drew.heap.size, 0, none⟩) (W := w6.drew.alloc (.cells #[.int .i64 (a : Nat), .int .i64 (s.tops.length : Nat)] tP2)) (HK6.out.below HBD.out) (by rw [List.length_map]; have := HBL.out; omega) (by have := HB6.out.size; simp; omega) rfl (by intro u hu; simp [pairC] at hu; rcases hu with rfl | rfl <;> rfl) (lit_cells w6.drew tP2 _ _ rfl) (by rfl) rfl (by rfl) (by rfl) ?_; intro v7 w7 hk7 hgr7; have HK7 := Lib.hid hk7; have HN7 := Lib.hid ((HN6.out.below HBD.out).keptBT hgr7.1 (HK6.out.below HBD.out).bt (by decide) (by decide)); have HB7 := Lib.hid (hgr7.below (HB6.out.trans (HBD.out.mono HB6.out.size)) (by have := HB6.out.size; simp; omega) HK6.out.ge); clear hk7 hgr7))
            all_goals
              go_wp2_with fail
              go_roundw
              case rel =>
                have HS2 : cutTo t m (j + 1) = ⟨s.near, s.top.set j s.tops.length, s.tops ++ [j], s.bet ++ [(a, s.tops.length)]⟩ := by
                  rw [HSC.out, cutStep, HBT.out, HTK.out]; rfl
                refine ⟨j + 1, vs, by omega, by go_num, ?_, ?_, HB7.out⟩
                · rw [HS2]; exact HN7.out
                · rw [HS2, List.map_append]; exact HK7.out
              case measure => simp [intOf]; omega
          | false =>
            have hbit := cut_bit m j (by have := HM.out; have : 2 ^ t.length ≤ 2 ^ 8 := Nat.pow_le_pow_right (by omega) h8; omega)
            rw [hbt, if_neg (by decide)] at hbit
            have HBT := Lib.hid hbt
            obtain ⟨⟨u0, q1⟩, q2, hp1, hg1, hgb⟩ := HN.out.put (k := 1) (j := j) rfl rfl htl a (by have := HTL.out; omega)
            have HP1 := Lib.hid hp1
            have HB2 := Lib.hid (HB.out.setCell (p := ⟨g1, j, none⟩) hg1 (.int .i64 (a : Nat)))
            have HK2 := Lib.hid (HK.out.kept hgb (HK.out.bt.ne (v' := .slice (some ⟨g1, 0, none⟩) t.length t.length) (HN.out.other (k := 1) rfl rfl).1.bt (by decide)))
            clear hp1 hzp hgb hbt hTK
            go_upto_region 8 with fail
            --BEGIN8
            generalize hw8 : wr.setCell ⟨g1, j, none⟩ (.int .i64 (a : Int)) = w8 at HP1 HB2 HK2 ⊢
            clear hw8 q1 q2 hq0
            have hkt : k < t.length := by omega
            have HP2 := Lib.hid HP1.out.two
            obtain ⟨Ak, mk, ck, nk, huk, hmk, hzk, hck, hok⟩ := HP1.out.get hkt
            obtain ⟨Aj, mj, cj, nj, huj, hmj, hzj, hcj, hoj⟩ := HP1.out.get hlt
            subst hmk hmj
            have HUk := Lib.hid huk
            have HUj := Lib.hid huj
            have HZk := Lib.hid hzk
            have HZj := Lib.hid hzj
            have HLk := Lib.hid (show nk.length ≤ 1000 from by have := (HCI.out.near nk (List.mem_of_getElem? hzk)).1; omega)
            have HLj := Lib.hid (show nj.length ≤ 1000 from by have := (HCI.out.near nj (List.mem_of_getElem? hzj)).1; omega)
            have HZj2 := Lib.hid (show (addAt j k s.near)[j]? = some nj from by rw [addAt_ne _ _ (by omega)]; exact hzj)
            have HG0 := Lib.hid HP1.out.ge
            have HNE := Lib.hid (show ∀ b, w8.heap.size ≤ b → (Value.slice Ak nk.length ck).ownBlock ≠ some b from fun b hb e => by have := hok.1.lt b e; omega)
            clear huk huj hzk hzj hok hoj
            refine AnyT.begin (k := 19) (S := fun b w' => True ∧ (b = false → w'.cell? ⟨g0, k, none⟩ = some (.slice Ak nk.length ck) ∧ w'.cell? ⟨g0, j, none⟩ = some (.slice Aj nj.length cj))) (by kernel_rfl) ?_
            have hS : (fun (b : Bool) (w' : World) => True ∧ (b = false → w'.cell? ⟨g0, k, none⟩ = some (.slice Ak nk.length ck) ∧ w'.cell? ⟨g0, j, none⟩ = some (.slice Aj nj.length cj))) false w8.drew := ⟨trivial, fun _ => ⟨hck, hcj⟩⟩
            clear hck hcj
            refine AnyT.take0 (i := 0) (v := ?_) rfl (by kernel_rfl) (by kernel_rfl) (by kernel_rfl) (by decide) (fun _ _ _ h => h) hS (Or.inl ⟨by first | kernel_rfl | rfl, ?_⟩) ?_
            rotate_left
            · intro w' hw'; clear hw'; go_simp; try with_reducible rfl
            try simp only [Act.put, List.setIfInBounds_toArray, List.set_cons_zero, List.set_cons_succ]
            refine AnyT.take0 (i := 1) (v := ?_) rfl (by kernel_rfl) (by kernel_rfl) (by kernel_rfl) (by decide) (fun _ _ _ h => h) hS (Or.inl ⟨by first | kernel_rfl | rfl, ?_⟩) ?_
            rotate_left
            · intro w' hw'; clear hw'; go_simp; try with_reducible rfl
            try simp only [Act.put, List.setIfInBounds_toArray, List.set_cons_zero, List.set_cons_succ]
            refine AnyT.take0 (i := 2) (v := ?_) rfl (by kernel_rfl) (by kernel_rfl) (by kernel_rfl) (by decide) (fun _ _ _ h => h) hS (Or.inl ⟨by first | kernel_rfl | rfl, ?_⟩) ?_
            rotate_left
            · intro w' hw'; clear hw'; go_simp; try with_reducible rfl
            try simp only [Act.put, List.setIfInBounds_toArray, List.set_cons_zero, List.set_cons_succ]
            refine AnyT.take0 (i := 3) (v := ?_) rfl (by kernel_rfl) (by kernel_rfl) (by kernel_rfl) (by decide) (fun _ _ _ h => h) hS (Or.inl ⟨by first | kernel_rfl | rfl, ?_⟩) ?_
            rotate_left
            · intro w' hw'; clear hw'; go_simp; try with_reducible rfl
            try simp only [Act.put, List.setIfInBounds_toArray, List.set_cons_zero, List.set_cons_succ]
            refine AnyT.take0 (i := 4) (v := ?_) rfl (by kernel_rfl) (by kernel_rfl) (by kernel_rfl) (by decide) (fun _ _ _ h => h) hS (Or.inl ⟨by first | kernel_rfl | rfl, ?_⟩) ?_
            rotate_left
            · intro w' hw'; clear hw'; go_simp; try with_reducible rfl
            try simp only [Act.put, List.setIfInBounds_toArray, List.set_cons_zero, List.set_cons_succ]
            refine AnyT.take0 (i := 5) (v := ?_) rfl (by kernel_rfl) (by kernel_rfl) (by kernel_rfl) (by decide) (fun _ _ _ h => h) hS (Or.inl ⟨by first | kernel_rfl | rfl, ?_⟩) ?_
            rotate_left
            · intro w' hw'; clear hw'; go_simp; try with_reducible rfl
            try simp only [Act.put, List.setIfInBounds_toArray, List.set_cons_zero, List.set_cons_succ]
            refine AnyT.take0 (i := 6) (v := ?_) rfl (by kernel_rfl) (by kernel_rfl) (by kernel_rfl) (by decide) (fun _ _ _ h => h) hS (Or.inl ⟨by first | kernel_rfl | rfl, ?_⟩) ?_
            rotate_left
            · intro w' hw'; clear hw'; go_simp; try with_reducible rfl
            try simp only [Act.put, List.setIfInBounds_toArray, List.set_cons_zero, List.set_cons_succ]
            refine AnyT.take1 (i := 7) (v := ?_) rfl (by kernel_rfl) (by kernel_rfl) (by kernel_rfl) (by decide) (by kernel_rfl) rfl (fun _ _ _ h => h) hS (Or.inl ⟨by first | kernel_rfl | rfl, ?_⟩) ?_
            rotate_left
            · intro w' hw'; have hw3 := hw'.2 rfl; go_simp; try with_reducible rfl
            try simp only [Act.put, List.setIfInBounds_toArray, List.set_cons_zero, List.set_cons_succ]
            refine AnyT.take0 (i := 8) (v := ?_) rfl (by kernel_rfl) (by kernel_rfl) (by kernel_rfl) (by decide) (fun _ _ _ h => h) hS (Or.inl ⟨by first | kernel_rfl | rfl, ?_⟩) ?_
            rotate_left
            · intro w' hw'; clear hw'; go_simp; try with_reducible rfl
            try simp only [Act.put, List.setIfInBounds_toArray, List.set_cons_zero, List.set_cons_succ]
            refine AnyT.take0 (i := 11) (v := ?_) rfl (by kernel_rfl) (by kernel_rfl) (by kernel_rfl) (by decide) (fun _ _ _ h => h) hS (Or.inl ⟨by first | kernel_rfl | rfl, ?_⟩) ?_
            rotate_left
            · intro w' hw'; clear hw'; go_simp; try with_reducible rfl
            try simp only [Act.put, List.setIfInBounds_toArray, List.set_cons_zero, List.set_cons_succ]
            refine AnyT.take0 (i := 12) (v := ?_) rfl (by kernel_rfl) (by kernel_rfl) (by kernel_rfl) (by decide) (fun _ _ _ h => h) hS (Or.inl ⟨by first | kernel_rfl | rfl, ?_⟩) ?_
            rotate_left
            · intro w' hw'; clear hw'; go_simp; try with_reducible rfl
            try simp only [Act.put, List.setIfInBounds_toArray, List.set_cons_zero, List.set_cons_succ]
            refine AnyT.take0 (i := 13) (v := ?_) rfl (by kernel_rfl) (by kernel_rfl) (by kernel_rfl) (by decide) (fun _ _ _ h => h) hS (Or.inl ⟨by first | kernel_rfl | rfl, ?_⟩) ?_
            rotate_left
            · intro w' hw'; clear hw'; go_simp; try with_reducible rfl
            try simp only [Act.put, List.setIfInBounds_toArray, List.set_cons_zero, List.set_cons_succ]
            refine AnyT.take1 (i := 14) (v := ?_) rfl (by kernel_rfl) (by kernel_rfl) (by kernel_rfl) (by decide) (by kernel_rfl) rfl (fun _ _ _ h => h) hS (Or.inl ⟨by first | kernel_rfl | rfl, ?_⟩) ?_
            rotate_left
            · intro w' hw'; have hw3 := hw'.2 rfl; go_simp; try with_reducible rfl
            try simp only [Act.put, List.setIfInBounds_toArray, List.set_cons_zero, List.set_cons_succ]
            refine AnyT.take0 (i := 15) (v := ?_) rfl (by kernel_rfl) (by kernel_rfl) (by kernel_rfl) (by decide) (fun _ _ _ h => h) hS (Or.inl ⟨by first | kernel_rfl | rfl, ?_⟩) ?_
            rotate_left
            · intro w' hw'; clear hw'; go_simp; try with_reducible rfl
            try simp only [Act.put, List.setIfInBounds_toArray, List.set_cons_zero, List.set_cons_succ]
            refine AnyT.go (rs := [9, 16]) (by kernel_rfl) (by simp) ?_
            refine AllT.cons rfl (fun K hK => ?_) (AllT.cons rfl (fun K hK => ?_) AllT.nil)
            · go_simp
              have hb1 : Below w8.heap.size w8 (w8.drew.alloc (.cells #[.int .i64 (j : Int)] tN)) := (((Below.refl w8.heap.size w8).drew).alloc (Nat.le_refl _) _)
              have HX := Lib.hid (HP2.out.below hb1)
              refine hK.out _ _ ⟨trivial, fun _ => ⟨HX.out.cell HUk.out, HX.out.cell HUj.out⟩⟩ (fun hS => ?_)
              clear hK
              try simp only [Act.put, List.setIfInBounds_toArray, List.set_cons_zero, List.set_cons_succ]
              refine AnyT.go (rs := [10, 16]) (by kernel_rfl) (by simp) ?_
              refine AllT.cons rfl (fun K hK => ?_) (AllT.cons rfl (fun K hK => ?_) AllT.nil)
              · refine stp_app1 T_nat (B := w.heap.size) (v := .slice Ak nk.length ck) (vs := ints (up nk)) (W := (w8.drew.alloc (.cells #[.int .i64 (j : Int)] tN))) (u := .int .i64 (j : Int)) (ad := ⟨w8.heap.size, 0, none⟩) (HX.out.row HUk.out HZk.out).1 (by rw [ints_len, up_len]; have := HLk.out; omega) (by have h1 := HB2.out.size; have h2 := hb1.size; simp at h2 ⊢; omega) (by rfl) rfl (by rfl) (by rfl) (by rfl) ((Blk.new w8.drew _ _).cell 0) ?_
                intro u3 x3 hown3 hgr3
                obtain ⟨A3, c3, hv3, -, -⟩ := hown3.cells.open_
                rw [show (ints (up nk) ++ [Value.int .i64 (j : Int)]).length = nk.length + 1 from by simp [ints, up]] at hv3
                subst hv3
                have HUj3 := Lib.hid (show (vs.set k (.slice A3 (nk.length + 1) c3))[j]? = some (.slice Aj nj.length cj) from by rw [List.getElem?_set_ne (by omega)]; exact HUj.out)
                have HA3 := Lib.hid (HX.out.app HUk.out HZk.out hown3 (by omega) hgr3)
                have HB3 := Lib.hid (hgr3.below (HB2.out.trans (hb1.mono HB2.out.size)) (by have h1 := HB2.out.size; have h2 := hb1.size; simp at h2 ⊢; omega) (HX.out.row HUk.out HZk.out).1.ge)
                have HK3 := Lib.hid ((HK2.out.below hb1).kept hgr3.1 ((HK2.out.below hb1).bt.ne (HX.out.row HUk.out HZk.out).1.bt (by decide)))
                refine hK.out _ _ ⟨trivial, fun _ => ⟨HA3.out.cell HUk.out, HA3.out.cell HUj.out⟩⟩ (fun hS => ?_)
                clear hK
                try simp only [Act.put, List.setIfInBounds_toArray, List.set_cons_zero, List.set_cons_succ]
                refine AnyT.go (rs := [16]) (by kernel_rfl) (by simp) ?_
                refine AllT.cons rfl (fun K hK => ?_) AllT.nil
                go_simp
                have HY := Lib.hid (HA3.out.below (below1 x3 (.cells #[.int .i64 (k : Int)] tN)))
                refine hK.out _ _ ⟨trivial, fun _ => ⟨HY.out.cell HUk.out, HY.out.cell HUj.out⟩⟩ (fun hS => ?_)
                clear hK
                try simp only [Act.put, List.setIfInBounds_toArray, List.set_cons_zero, List.set_cons_succ]
                refine AnyT.go (rs := [17]) (by kernel_rfl) (by simp) ?_
                refine AllT.cons rfl (fun K hK => ?_) AllT.nil
                refine stp_app1 T_nat (B := w.heap.size) (v := .slice Aj nj.length cj) (vs := ints (up nj)) (W := (x3.alloc (.cells #[.int .i64 (k : Int)] tN))) (u := .int .i64 (k : Int)) (ad := ⟨x3.heap.size, 0, none⟩) (HY.out.row HUj3.out HZj2.out).1 (by rw [ints_len, up_len]; have := HLj.out; omega) (HB3.out.trans ((below1 x3 _).mono HB3.out.size)).size (by rfl) rfl (by rfl) (by rfl) (by rfl) ((Blk.new x3 _ _).cell 0) ?_
                intro u5 x5 hown5 hgr5
                obtain ⟨A5, c5, hv5, -, -⟩ := hown5.cells.open_
                rw [show (ints (up nj) ++ [Value.int .i64 (k : Int)]).length = nj.length + 1 from by simp [ints, up]] at hv5
                subst hv5
                have HA5 := Lib.hid (HY.out.app HUj3.out HZj2.out hown5 (by omega) hgr5)
                have HB5 := Lib.hid (hgr5.below (HB3.out.trans ((below1 x3 _).mono HB3.out.size)) (HB3.out.trans ((below1 x3 _).mono HB3.out.size)).size (HY.out.row HUj3.out HZj2.out).1.ge)
                have HK5 := Lib.hid ((HK3.out.below (below1 x3 _)).kept hgr5.1 ((HK3.out.below (below1 x3 _)).bt.ne (HY.out.row HUj3.out HZj2.out).1.bt (by decide)))
                refine hK.out _ _ ⟨trivial, fun _ => ⟨HA5.out.cell HUk.out, HA5.out.cell HUj.out⟩⟩ (fun hS => ?_)
                clear hK
                try simp only [Act.put, List.setIfInBounds_toArray, List.set_cons_zero, List.set_cons_succ]
                refine AnyT.take0 (i := 18) (v := ?_) rfl (by kernel_rfl) (by kernel_rfl) (by kernel_rfl) (by decide) (fun _ _ _ h => h) hS (Or.inl ⟨by first | kernel_rfl | rfl, ?_⟩) ?_
                rotate_left
                · intro w' hw'; clear hw'; go_simp; try with_reducible rfl
                try simp only [Act.put, List.setIfInBounds_toArray, List.set_cons_zero, List.set_cons_succ]
                obtain ⟨⟨z0, q0⟩, q1, hn6, hg6⟩ := HA5.out.store hkt (.slice A3 (nk.length + 1) c3)
                have HA6 := Lib.hid hn6
                have HK6 := Lib.hid (HK5.out.kept hg6 (HK5.out.bt.ne (v' := .slice (some ⟨g0, 0, none⟩) t.length t.length) HA5.out.own.bt (by decide)))
                clear hn6 hg6
                refine AnyT.go (rs := [19]) (by kernel_rfl) (by simp) ?_
                refine AllT.cons rfl (fun K hK => ?_) AllT.nil
                go_simp
                refine hK.out _ _ ⟨trivial, fun h => Bool.noConfusion (show true = false from h)⟩ (fun hS => ?_)
                clear hK q0 q1
                try simp only [Act.put, List.setIfInBounds_toArray, List.set_cons_zero, List.set_cons_succ]
                refine AnyT.take0 (i := 20) (v := ?_) rfl (by kernel_rfl) (by kernel_rfl) (by kernel_rfl) (by decide) (fun _ _ _ h => h) hS (Or.inl ⟨by first | kernel_rfl | rfl, ?_⟩) ?_
                rotate_left
                · intro w' hw'; clear hw'; go_simp; try with_reducible rfl
                try simp only [Act.put, List.setIfInBounds_toArray, List.set_cons_zero, List.set_cons_succ]
                obtain ⟨⟨z1, q2⟩, q3, hn7, hg7⟩ := HA6.out.store hlt (.slice A5 (nj.length + 1) c5)
                have HA7 := Lib.hid hn7
                have HK7 := Lib.hid (HK6.out.kept hg7 (HK6.out.bt.ne (v' := .slice (some ⟨g0, 0, none⟩) t.length t.length) HA6.out.own.bt (by decide)))
                clear hn7 hg7
                refine AnyT.go (rs := [21]) (by kernel_rfl) (by simp) ?_
                refine AllT.cons rfl (fun K hK => ?_) AllT.nil
                go_simp
                refine hK.out _ _ ⟨trivial, fun h => Bool.noConfusion (show true = false from h)⟩ (fun hS => ?_)
                clear hK q2 q3 hS
                refine AnyT.done (by kernel_rfl) ?_ _
                have HB7 := Lib.hid ((HB5.out.setCell (p := ⟨g0, k, none⟩) HG0.out (.slice A3 (nk.length + 1) c3)).setCell (p := ⟨g0, j, none⟩) HG0.out (.slice A5 (nj.length + 1) c5))
                go_wp2_with fail
                go_roundw
                case rel =>
                  have HS2 : cutTo t m (j + 1) = ⟨addAt j k (addAt k j s.near), s.top.set j a, s.tops, s.bet⟩ := by
                    rw [HSC.out, cutStep, HBT.out, HTK.out]; rfl
                  have hf := HA7.out.one rfl
                  rw [addAt_comm (show j ≠ k by omega)] at hf
                  exact ⟨j + 1, _, by omega, by go_num, by rw [HS2]; exact hf, by rw [HS2]; exact HK7.out, HB7.out⟩
                case measure => simp [intOf]; omega
              · go_simp
                have hb2 : Below w8.heap.size w8 ((w8.drew.alloc (.cells #[.int .i64 (j : Int)] tN)).alloc (.cells #[.int .i64 (k : Int)] tN)) := ((((Below.refl w8.heap.size w8).drew).alloc (Nat.le_refl _) _).alloc (by simp) _)
                have HY := Lib.hid (HP2.out.below hb2)
                refine hK.out _ _ ⟨trivial, fun _ => ⟨HY.out.cell HUk.out, HY.out.cell HUj.out⟩⟩ (fun hS => ?_)
                clear hK
                try simp only [Act.put, List.setIfInBounds_toArray, List.set_cons_zero, List.set_cons_succ]
                refine AnyT.go (rs := [10]) (by kernel_rfl) (by simp) ?_
                refine AllT.cons rfl (fun K hK => ?_) AllT.nil
                refine stp_app1 T_nat (B := w.heap.size) (v := .slice Ak nk.length ck) (vs := ints (up nk)) (W := ((w8.drew.alloc (.cells #[.int .i64 (j : Int)] tN)).alloc (.cells #[.int .i64 (k : Int)] tN))) (u := .int .i64 (j : Int)) (ad := ⟨w8.heap.size, 0, none⟩) (HY.out.row HUk.out HZk.out).1 (by rw [ints_len, up_len]; have := HLk.out; omega) (by have h1 := HB2.out.size; have h2 := hb2.size; simp at h2 ⊢; omega) (by rfl) rfl (by rfl) (by rfl) (by rfl) (((Blk.new w8.drew _ _).alloc _).cell 0) ?_
                intro u3 x3 hown3 hgr3
                obtain ⟨A3, c3, hv3, -, -⟩ := hown3.cells.open_
                rw [show (ints (up nk) ++ [Value.int .i64 (j : Int)]).length = nk.length + 1 from by simp [ints, up]] at hv3
                subst hv3
                have HUj3 := Lib.hid (show (vs.set k (.slice A3 (nk.length + 1) c3))[j]? = some (.slice Aj nj.length cj) from by rw [List.getElem?_set_ne (by omega)]; exact HUj.out)
                have HA3 := Lib.hid (HY.out.app HUk.out HZk.out hown3 (by omega) hgr3)
                have HB3 := Lib.hid (hgr3.below (HB2.out.trans (hb2.mono HB2.out.size)) (by have h1 := HB2.out.size; have h2 := hb2.size; simp at h2 ⊢; omega) (HY.out.row HUk.out HZk.out).1.ge)
                have HK3 := Lib.hid ((HK2.out.below hb2).kept hgr3.1 ((HK2.out.below hb2).bt.ne (HY.out.row HUk.out HZk.out).1.bt (by decide)))
                refine hK.out _ _ ⟨trivial, fun _ => ⟨HA3.out.cell HUk.out, HA3.out.cell HUj.out⟩⟩ (fun hS => ?_)
                clear hK
                try simp only [Act.put, List.setIfInBounds_toArray, List.set_cons_zero, List.set_cons_succ]
                refine AnyT.go (rs := [17]) (by kernel_rfl) (by simp) ?_
                refine AllT.cons rfl (fun K hK => ?_) AllT.nil
                refine stp_app1 T_nat (B := w.heap.size) (v := .slice Aj nj.length cj) (vs := ints (up nj)) (W := x3) (u := .int .i64 (k : Int)) (ad := ⟨w8.heap.size + 1, 0, none⟩) (HA3.out.row HUj3.out HZj2.out).1 (by rw [ints_len, up_len]; have := HLj.out; omega) HB3.out.size (by rfl) rfl (by rfl) (by rfl) (by rfl) (((Blk.new1 w8.drew _ _ _).kept hgr3.1 (HNE.out _ (by simp))).cell 0) ?_
                intro u5 x5 hown5 hgr5
                obtain ⟨A5, c5, hv5, -, -⟩ := hown5.cells.open_
                rw [show (ints (up nj) ++ [Value.int .i64 (k : Int)]).length = nj.length + 1 from by simp [ints, up]] at hv5
                subst hv5
                have HA5 := Lib.hid (HA3.out.app HUj3.out HZj2.out hown5 (by omega) hgr5)
                have HB5 := Lib.hid (hgr5.below HB3.out HB3.out.size (HA3.out.row HUj3.out HZj2.out).1.ge)
                have HK5 := Lib.hid (HK3.out.kept hgr5.1 (HK3.out.bt.ne (HA3.out.row HUj3.out HZj2.out).1.bt (by decide)))
                refine hK.out _ _ ⟨trivial, fun _ => ⟨HA5.out.cell HUk.out, HA5.out.cell HUj.out⟩⟩ (fun hS => ?_)
                clear hK
                try simp only [Act.put, List.setIfInBounds_toArray, List.set_cons_zero, List.set_cons_succ]
                refine AnyT.take0 (i := 18) (v := ?_) rfl (by kernel_rfl) (by kernel_rfl) (by kernel_rfl) (by decide) (fun _ _ _ h => h) hS (Or.inl ⟨by first | kernel_rfl | rfl, ?_⟩) ?_
                rotate_left
                · intro w' hw'; clear hw'; go_simp; try with_reducible rfl
                try simp only [Act.put, List.setIfInBounds_toArray, List.set_cons_zero, List.set_cons_succ]
                obtain ⟨⟨z0, q0⟩, q1, hn6, hg6⟩ := HA5.out.store hkt (.slice A3 (nk.length + 1) c3)
                have HA6 := Lib.hid hn6
                have HK6 := Lib.hid (HK5.out.kept hg6 (HK5.out.bt.ne (v' := .slice (some ⟨g0, 0, none⟩) t.length t.length) HA5.out.own.bt (by decide)))
                clear hn6 hg6
                refine AnyT.go (rs := [19]) (by kernel_rfl) (by simp) ?_
                refine AllT.cons rfl (fun K hK => ?_) AllT.nil
                go_simp
                refine hK.out _ _ ⟨trivial, fun h => Bool.noConfusion (show true = false from h)⟩ (fun hS => ?_)
                clear hK q0 q1
                try simp only [Act.put, List.setIfInBounds_toArray, List.set_cons_zero, List.set_cons_succ]
                refine AnyT.take0 (i := 20) (v := ?_) rfl (by kernel_rfl) (by kernel_rfl) (by kernel_rfl) (by decide) (fun _ _ _ h => h) hS (Or.inl ⟨by first | kernel_rfl | rfl, ?_⟩) ?_
                rotate_left
                · intro w' hw'; clear hw'; go_simp; try with_reducible rfl
                try simp only [Act.put, List.setIfInBounds_toArray, List.set_cons_zero, List.set_cons_succ]
                obtain ⟨⟨z1, q2⟩, q3, hn7, hg7⟩ := HA6.out.store hlt (.slice A5 (nj.length + 1) c5)
                have HA7 := Lib.hid hn7
                have HK7 := Lib.hid (HK6.out.kept hg7 (HK6.out.bt.ne (v' := .slice (some ⟨g0, 0, none⟩) t.length t.length) HA6.out.own.bt (by decide)))
                clear hn7 hg7
                refine AnyT.go (rs := [21]) (by kernel_rfl) (by simp) ?_
                refine AllT.cons rfl (fun K hK => ?_) AllT.nil
                go_simp
                refine hK.out _ _ ⟨trivial, fun h => Bool.noConfusion (show true = false from h)⟩ (fun hS => ?_)
                clear hK q2 q3 hS
                refine AnyT.done (by kernel_rfl) ?_ _
                have HB7 := Lib.hid ((HB5.out.setCell (p := ⟨g0, k, none⟩) HG0.out (.slice A3 (nk.length + 1) c3)).setCell (p := ⟨g0, j, none⟩) HG0.out (.slice A5 (nj.length + 1) c5))
                go_wp2_with fail
                go_roundw
                case rel =>
                  have HS2 : cutTo t m (j + 1) = ⟨addAt j k (addAt k j s.near), s.top.set j a, s.tops, s.bet⟩ := by
                    rw [HSC.out, cutStep, HBT.out, HTK.out]; rfl
                  have hf := HA7.out.one rfl
                  rw [addAt_comm (show j ≠ k by omega)] at hf
                  exact ⟨j + 1, _, by omega, by go_num, by rw [HS2]; exact hf, by rw [HS2]; exact HK7.out, HB7.out⟩
                case measure => simp [intOf]; omega
            · go_simp
              have hb1 : Below w8.heap.size w8 (w8.drew.alloc (.cells #[.int .i64 (k : Int)] tN)) := (((Below.refl w8.heap.size w8).drew).alloc (Nat.le_refl _) _)
              have HX := Lib.hid (HP2.out.below hb1)
              refine hK.out _ _ ⟨trivial, fun _ => ⟨HX.out.cell HUk.out, HX.out.cell HUj.out⟩⟩ (fun hS => ?_)
              clear hK
              try simp only [Act.put, List.setIfInBounds_toArray, List.set_cons_zero, List.set_cons_succ]
              refine AnyT.go (rs := [9]) (by kernel_rfl) (by simp) ?_
              refine AllT.cons rfl (fun K hK => ?_) AllT.nil
              go_simp
              have hb2 : Below w8.heap.size w8 ((w8.drew.alloc (.cells #[.int .i64 (k : Int)] tN)).alloc (.cells #[.int .i64 (j : Int)] tN)) := ((((Below.refl w8.heap.size w8).drew).alloc (Nat.le_refl _) _).alloc (by simp) _)
              have HY := Lib.hid (HP2.out.below hb2)
              refine hK.out _ _ ⟨trivial, fun _ => ⟨HY.out.cell HUk.out, HY.out.cell HUj.out⟩⟩ (fun hS => ?_)
              clear hK
              try simp only [Act.put, List.setIfInBounds_toArray, List.set_cons_zero, List.set_cons_succ]
              refine AnyT.go (rs := [10]) (by kernel_rfl) (by simp) ?_
              refine AllT.cons rfl (fun K hK => ?_) AllT.nil
              refine stp_app1 T_nat (B := w.heap.size) (v := .slice Ak nk.length ck) (vs := ints (up nk)) (W := ((w8.drew.alloc (.cells #[.int .i64 (k : Int)] tN)).alloc (.cells #[.int .i64 (j : Int)] tN))) (u := .int .i64 (j : Int)) (ad := ⟨w8.heap.size + 1, 0, none⟩) (HY.out.row HUk.out HZk.out).1 (by rw [ints_len, up_len]; have := HLk.out; omega) (by have h1 := HB2.out.size; have h2 := hb2.size; simp at h2 ⊢; omega) (by rfl) rfl (by rfl) (by rfl) (by rfl) ((Blk.new1 w8.drew _ _ _).cell 0) ?_
              intro u3 x3 hown3 hgr3
              obtain ⟨A3, c3, hv3, -, -⟩ := hown3.cells.open_
              rw [show (ints (up nk) ++ [Value.int .i64 (j : Int)]).length = nk.length + 1 from by simp [ints, up]] at hv3
              subst hv3
              have HUj3 := Lib.hid (show (vs.set k (.slice A3 (nk.length + 1) c3))[j]? = some (.slice Aj nj.length cj) from by rw [List.getElem?_set_ne (by omega)]; exact HUj.out)
              have HA3 := Lib.hid (HY.out.app HUk.out HZk.out hown3 (by omega) hgr3)
              have HB3 := Lib.hid (hgr3.below (HB2.out.trans (hb2.mono HB2.out.size)) (by have h1 := HB2.out.size; have h2 := hb2.size; simp at h2 ⊢; omega) (HY.out.row HUk.out HZk.out).1.ge)
              have HK3 := Lib.hid ((HK2.out.below hb2).kept hgr3.1 ((HK2.out.below hb2).bt.ne (HY.out.row HUk.out HZk.out).1.bt (by decide)))
              refine hK.out _ _ ⟨trivial, fun _ => ⟨HA3.out.cell HUk.out, HA3.out.cell HUj.out⟩⟩ (fun hS => ?_)
              clear hK
              try simp only [Act.put, List.setIfInBounds_toArray, List.set_cons_zero, List.set_cons_succ]
              refine AnyT.go (rs := [17]) (by kernel_rfl) (by simp) ?_
              refine AllT.cons rfl (fun K hK => ?_) AllT.nil
              refine stp_app1 T_nat (B := w.heap.size) (v := .slice Aj nj.length cj) (vs := ints (up nj)) (W := x3) (u := .int .i64 (k : Int)) (ad := ⟨w8.heap.size, 0, none⟩) (HA3.out.row HUj3.out HZj2.out).1 (by rw [ints_len, up_len]; have := HLj.out; omega) HB3.out.size (by rfl) rfl (by rfl) (by rfl) (by rfl) ((((Blk.new w8.drew _ _).alloc _).kept hgr3.1 (HNE.out _ (by simp))).cell 0) ?_
              intro u5 x5 hown5 hgr5
              obtain ⟨A5, c5, hv5, -, -⟩ := hown5.cells.open_
              rw [show (ints (up nj) ++ [Value.int .i64 (k : Int)]).length = nj.length + 1 from by simp [ints, up]] at hv5
              subst hv5
              have HA5 := Lib.hid (HA3.out.app HUj3.out HZj2.out hown5 (by omega) hgr5)
              have HB5 := Lib.hid (hgr5.below HB3.out HB3.out.size (HA3.out.row HUj3.out HZj2.out).1.ge)
              have HK5 := Lib.hid (HK3.out.kept hgr5.1 (HK3.out.bt.ne (HA3.out.row HUj3.out HZj2.out).1.bt (by decide)))
              refine hK.out _ _ ⟨trivial, fun _ => ⟨HA5.out.cell HUk.out, HA5.out.cell HUj.out⟩⟩ (fun hS => ?_)
              clear hK
              try simp only [Act.put, List.setIfInBounds_toArray, List.set_cons_zero, List.set_cons_succ]
              refine AnyT.take0 (i := 18) (v := ?_) rfl (by kernel_rfl) (by kernel_rfl) (by kernel_rfl) (by decide) (fun _ _ _ h => h) hS (Or.inl ⟨by first | kernel_rfl | rfl, ?_⟩) ?_
              rotate_left
              · intro w' hw'; clear hw'; go_simp; try with_reducible rfl
              try simp only [Act.put, List.setIfInBounds_toArray, List.set_cons_zero, List.set_cons_succ]
              obtain ⟨⟨z0, q0⟩, q1, hn6, hg6⟩ := HA5.out.store hkt (.slice A3 (nk.length + 1) c3)
              have HA6 := Lib.hid hn6
              have HK6 := Lib.hid (HK5.out.kept hg6 (HK5.out.bt.ne (v' := .slice (some ⟨g0, 0, none⟩) t.length t.length) HA5.out.own.bt (by decide)))
              clear hn6 hg6
              refine AnyT.go (rs := [19]) (by kernel_rfl) (by simp) ?_
              refine AllT.cons rfl (fun K hK => ?_) AllT.nil
              go_simp
              refine hK.out _ _ ⟨trivial, fun h => Bool.noConfusion (show true = false from h)⟩ (fun hS => ?_)
              clear hK q0 q1
              try simp only [Act.put, List.setIfInBounds_toArray, List.set_cons_zero, List.set_cons_succ]
              refine AnyT.take0 (i := 20) (v := ?_) rfl (by kernel_rfl) (by kernel_rfl) (by kernel_rfl) (by decide) (fun _ _ _ h => h) hS (Or.inl ⟨by first | kernel_rfl | rfl, ?_⟩) ?_
              rotate_left
              · intro w' hw'; clear hw'; go_simp; try with_reducible rfl
              try simp only [Act.put, List.setIfInBounds_toArray, List.set_cons_zero, List.set_cons_succ]
              obtain ⟨⟨z1, q2⟩, q3, hn7, hg7⟩ := HA6.out.store hlt (.slice A5 (nj.length + 1) c5)
              have HA7 := Lib.hid hn7
              have HK7 := Lib.hid (HK6.out.kept hg7 (HK6.out.bt.ne (v' := .slice (some ⟨g0, 0, none⟩) t.length t.length) HA6.out.own.bt (by decide)))
              clear hn7 hg7
              refine AnyT.go (rs := [21]) (by kernel_rfl) (by simp) ?_
              refine AllT.cons rfl (fun K hK => ?_) AllT.nil
              go_simp
              refine hK.out _ _ ⟨trivial, fun h => Bool.noConfusion (show true = false from h)⟩ (fun hS => ?_)
              clear hK q2 q3 hS
              refine AnyT.done (by kernel_rfl) ?_ _
              have HB7 := Lib.hid ((HB5.out.setCell (p := ⟨g0, k, none⟩) HG0.out (.slice A3 (nk.length + 1) c3)).setCell (p := ⟨g0, j, none⟩) HG0.out (.slice A5 (nj.length + 1) c5))
              go_wp2_with fail
              go_roundw
              case rel =>
                have HS2 : cutTo t m (j + 1) = ⟨addAt j k (addAt k j s.near), s.top.set j a, s.tops, s.bet⟩ := by
                  rw [HSC.out, cutStep, HBT.out, HTK.out]; rfl
                have hf := HA7.out.one rfl
                rw [addAt_comm (show j ≠ k by omega)] at hf
                exact ⟨j + 1, _, by omega, by go_num, by rw [HS2]; exact hf, by rw [HS2]; exact HK7.out, HB7.out⟩
              case measure => simp [intOf]; omega
            --END8
      · have : j = t.length := by omega
        subst this
        obtain ⟨wA, rfl⟩ : ∃ wA : World, wA = wr := ⟨_, rfl⟩
        rw [cutTo_all] at HN HK
        have HCI := Lib.hid (show CI t.length t.length (cutN t m) from by rw [← cutTo_all]; exact cutTo_ci t m _ (Nat.le_refl _))
        generalize hss : cutN t m = s at HN HK HCI HOK
        have HSS := Lib.hid hss
        obtain ⟨At, ct, hte, -, -, htc⟩ := (HN.out.other (k := 2) rfl rfl).ints.open_
        rw [up_len] at hte htc
        subst hte
        have hts : s.tops.length ≤ 8 := by have := HCI.out.tops.1; omega
        clear hss htc
        go_upto_region 15 with fail
        go_cut [13, 14] (fun pv jv wx => ∃ gp gj, pv = .slice (some ⟨gp, 0, none⟩) 0 0 ∧ jv = .slice (some ⟨gj, 0, none⟩) s.tops.length s.tops.length ∧ Own wx wA.heap.size tL (.slice (some ⟨gp, 0, none⟩) 0 0) [] ∧
          NW wx wA.heap.size gj s.tops.length (List.replicate s.tops.length (.slice none 0 0)) (List.replicate s.tops.length []) [] [] ∧ Below wA.heap.size wA wx)
        case first =>
          have hmk : ∀ W : World, (Instr.makeSlice 124 (.int .i64 (s.tops.length : Int)) (.int .i64 (s.tops.length : Int))).run Try.prog W = .ok (.slice (some ⟨W.heap.size, 0, none⟩) s.tops.length s.tops.length) (W.alloc (.cells (madeCells #[.slice none 0 0] s.tops.length) tNL)) := fun W => run_make T_nrow s.tops.length (by omega) W
          have HB0 := Lib.hid (show ∀ o o' : Obj, Below wA.heap.size wA ((wA.drew.alloc o).alloc o') from fun o o' => (((Below.refl _ _).drew).alloc (Nat.le_refl _) _).alloc (by simp) _)
          have HM1 := Lib.hid (NW.made ((own_made wA.drew tNL (.slice none 0 0) s.tops.length (by simp [maxLen]; omega)).alloc (.cells #[] tL)))
          have HM2 := Lib.hid (NW.made (own_made1 wA.drew (.cells #[] tL) tNL (.slice none 0 0) s.tops.length (by simp [maxLen]; omega)))
          have HP1 := Lib.hid (show Own ((wA.drew.alloc (.cells #[] tL)).alloc (.cells (madeCells #[.slice none 0 0] s.tops.length) tNL)) wA.heap.size tL (.slice (some ⟨wA.heap.size, 0, none⟩) 0 0) [] from (own_lit wA.drew tL [] (by simp [maxLen])).alloc _)
          have HP2 := Lib.hid (show Own ((wA.drew.alloc (.cells (madeCells #[.slice none 0 0] s.tops.length) tNL)).alloc (.cells #[] tL)) wA.heap.size tL (.slice (some ⟨wA.heap.size + 1, 0, none⟩) 0 0) [] from by
            have h := own_lit (wA.drew.alloc (.cells (madeCells #[.slice none 0 0] s.tops.length) tNL)) tL [] (by simp [maxLen])
            rw [size_alloc'] at h
            exact h.mono (Nat.le_succ _))
          go_region_law fail
          all_goals
            clear hmk
            go_wp2_with fail
            go_meet
            first
              | exact ⟨_, _, rfl, rfl, HP1.out, HM2.out, HB0.out _ _⟩
              | exact ⟨_, _, rfl, rfl, HP2.out, HM1.out, HB0.out _ _⟩
        case rest =>
          obtain ⟨gp, gj, rfl, rfl, hp0, hj0, hb0⟩ := hcut
          obtain ⟨pcs, hpcs⟩ := mapO_ex (g := fun i => canO 9 (pieN t m i)) (xs := s.tops) fun i hi => by
            obtain ⟨h1, h2, -⟩ := HOK.out.2.1 i hi
            obtain ⟨r, hr, -, -⟩ := canO_8 h1 h2
            exact ⟨r, hr⟩
          have HPC := Lib.hid hpcs
          have HPL := Lib.hid (show ∀ p ∈ pcs, p.length ≤ 8 from fun p hp => by
            obtain ⟨i, hi, hip⟩ := mapO_all hpcs p hp
            rw [canO_len hip]; exact (HOK.out.2.1 i hi).2.1)
          have HLE := Lib.hid (mapO_len hpcs)
          have HP0 := Lib.hid hp0
          have HJ0 := Lib.hid hj0
          have HC0 := Lib.hid hb0
          clear hp0 hj0 hb0 hpcs
          go_wp2_with fail
          go_loopw [13, 103] (fun pv x wr => ∃ (j : Nat) (vp : List Value), j ≤ s.tops.length ∧ x = .int .i64 j ∧ Own wr wA.heap.size tL pv vp ∧ RR wr wA.heap.size vp ((pcs.take j).map up) ∧
            NW wr wA.heap.size gj s.tops.length (List.replicate s.tops.length (.slice none 0 0)) (List.replicate s.tops.length []) [] [] ∧ Below wA.heap.size wA wr) (fun _ x _ => s.tops.length - (intOf x).toNat)
          case atStart => exact ⟨0, [], Nat.zero_le _, rfl, HP0.out, RR.nil _ _, HJ0.out, HC0.out⟩
          case round =>
            obtain ⟨j, vp, hj2, rfl, hown, hrr, hnj, hbq⟩ := hrel
            clear HP0 HJ0 HC0
            have HO := Lib.hid hown
            have HRR := Lib.hid hrr
            have HJ := Lib.hid hnj
            have HBQ := Lib.hid hbq
            clear hown hrr hnj hbq
            by_cases hlt2 : j < s.tops.length
            · obtain ⟨Ax, cx, hx5, -, -, ht5⟩ := ((HN.out.other (k := 2) rfl rfl).ints.below HBQ.out).open_
              rw [up_len] at ht5
              obtain ⟨att, zt, rfl, hzt, -, hct⟩ := ht5 j hlt2
              simp only [Value.slice.injEq] at hx5
              obtain ⟨rfl, -, rfl⟩ := hx5
              obtain ⟨i, hi, rfl⟩ := up_getD hzt
              have him := List.mem_of_getElem? hi
              have hit := HCI.out.tops.2 i him
              obtain ⟨p, hp, hcp⟩ := mapO_get HPC.out j i hi
              have hpl := HPL.out p (List.mem_of_getElem? hp)
              have hI := i_treeFrom 9 wr _ s.near i 0 p (HN.out.rows.below HBQ.out) (by rw [(HOK.out.2.1 i him).2.2]; exact hcp) (by omega) (by rw [HN.out.len']; omega) (by rw [HN.out.len']; exact hit) (by omega) (fun ns hns n hn => by rw [HN.out.len']; exact (HCI.out.near ns hns).2 n hn)
              rw [show (((0 : Nat) : Int) - 1) = -1 from rfl] at hI
              have HI := Lib.hid hI
              have HTK := Lib.hid (show pcs.take (j + 1) = pcs.take j ++ [p] by rw [List.take_add_one, hp]; rfl)
              have hvl : vp.length ≤ 1000 := by have h1 := HRR.out.1; rw [List.length_map, List.length_take] at h1; omega
              have hji : (j : Int) < (s.tops.length : Int) := by omega
              clear hzt hi him hp hcp hI ht5
              go_wp2_with (first
                | (go_at_call 147; refine HI.out.mono ?_; rintro e w2 ⟨r2, rfl, ho2, hb2⟩; obtain ⟨A5, c5, he5, -, -, -⟩ := ho2.ints.open_; rw [up_len] at he5; subst he5; have HO2 := Lib.hid (ho2.mono HBQ.out.size); have HBI := Lib.hid hb2; have HB2 := Lib.hid (HBQ.out.trans (hb2.mono HBQ.out.size)); have HOW := Lib.hid (HO.out.below hb2); clear ho2 hb2)
                | (at_builtin; refine wpList_app1 T_row HOW.out (by omega) HB2.out.size (by rfl) rfl (by rfl) (by rfl) (by rfl) ?_; intro v1 w5 hown1 hgr1; have HN1 := Lib.hid hown1; have HGR := Lib.hid hgr1.1; have HB5 := Lib.hid (hgr1.below HB2.out HB2.out.size HOW.out.ge); have HJ5 := Lib.hid ((HJ.out.below HBI.out).keptBT hgr1.1 HOW.out.bt (by decide) (by decide)); clear hown1 hgr1))
              go_roundw
              case rel =>
                refine ⟨j + 1, _, by omega, by go_num, HN1.out, ?_, HJ5.out, HB5.out⟩
                rw [HTK.out, List.map_append]
                exact LL.snoc HOW.out (HRR.out.below HBI.out) HO2.out HN1.out HGR.out
              case measure => simp [intOf]; omega
            · have : j = s.tops.length := by omega
              subst this
              rw [← HLE.out, List.take_length] at HRR
              have HKQ := Lib.hid (HK.out.below HBQ.out)
              clear HN HK
              have HSL := Lib.hid (show s.bet.length ≤ 8 from by have := HCI.out.bet.1; omega)
              have HBI := Lib.hid HCI.out.bet.2
              have HJB := Lib.hid (joinTo_nb HCI.out.bet.2)
              obtain ⟨Ab0, cb0, hbe, hb1, hb2⟩ := HKQ.out.open_
              rw [List.length_map] at hbe hb1
              subst hbe
              obtain ⟨Ap0, cp0, hpe, -, -⟩ := HO.out.cells.open_
              have hvl : vp.length = s.tops.length := by have := HRR.out.1; rw [List.length_map, HLE.out] at this; exact this
              rw [hvl] at hpe
              subst hpe
              clear hvl
              go_wp2_with fail
              obtain ⟨wB, rfl⟩ : ∃ wB : World, wB = wr := ⟨_, rfl⟩
              have HJ' := HJ
              clear HJ
              go_loopw [116] (fun x wr => ∃ (j : Nat) (vj : List Value), j ≤ s.bet.length ∧ x = .int .i64 j ∧ Psg wr wA.heap.size w.heap.size (.slice Ap0 s.tops.length cp0) vp pcs (.slice Ab0 s.bet.length cb0) s.bet ∧
                NW wr wA.heap.size gj s.tops.length vj (joinTo s.tops.length s.bet j) [] [] ∧ Below wA.heap.size wA wr) (fun x _ => s.bet.length - (intOf x).toNat)
              case atStart => exact ⟨0, _, Nat.zero_le _, rfl, ⟨HO.out, HRR.out, HKQ.out⟩, HJ'.out, HBQ.out⟩
              case round =>
                obtain ⟨j, vj, hj3, rfl, hpg, hnj, hbr⟩ := hrel
                clear HO HRR HKQ HJ' HBQ
                have HPG := Lib.hid hpg
                have HJ := Lib.hid hnj
                have HB3 := Lib.hid hbr
                clear hpg hnj hbr
                by_cases hlt3 : j < s.bet.length
                · have hej : s.bet[j]? = some ((s.bet[j]'hlt3).1, (s.bet[j]'hlt3).2) := List.getElem?_eq_getElem _
                  obtain ⟨hea, heb⟩ := HBI.out _ (List.mem_of_getElem? hej)
                  have HSN := Lib.hid (joinTo_succ (k := s.tops.length) hej)
                  have HNB := Lib.hid (HJB.out j (by omega))
                  generalize (s.bet[j]'hlt3).1 = ea at hej hea HSN
                  generalize (s.bet[j]'hlt3).2 = eb at hej heb HSN
                  generalize joinTo s.tops.length s.bet j = nss at HJ HSN HNB
                  obtain ⟨gb, cap, hv, hc0⟩ := HPG.out.pk.cell (i := j) (j := 0) (c := pairC (ea, eb)) (u := .int .i64 (ea : Int)) (by rw [List.getElem?_map, hej]; rfl) rfl
                  obtain ⟨gb', cap', hv', hc1⟩ := HPG.out.pk.cell (i := j) (j := 1) (c := pairC (ea, eb)) (u := .int .i64 (eb : Int)) (by rw [List.getElem?_map, hej]; rfl) rfl
                  rw [List.length_map] at hv hv'
                  rw [Nat.add_zero] at hc0
                  simp only [Value.slice.injEq] at hv hv'
                  obtain ⟨rfl, -, rfl⟩ := hv
                  simp only [Option.some.injEq, Addr.mk.injEq, and_true] at hv'
                  obtain ⟨rfl, -⟩ := hv'
                  have hji : (j : Int) < (s.bet.length : Int) := by omega
                  have hai : (ea : Int) < (s.tops.length : Int) := by omega
                  have hbi : (eb : Int) < (s.tops.length : Int) := by omega
                  have ha0 : (0 : Int) ≤ (ea : Int) := by omega
                  have hb0 : (0 : Int) ≤ (eb : Int) := by omega
                  have hat : ea < s.tops.length := hea
                  have hbt : eb < s.tops.length := heb
                  clear hej hea heb
                  go_upto_region 24 with fail
                  have K8 := Lib.hid (Blk.new wr #[.int .i64 (ea : Int), .int .i64 (eb : Int)] tP2)
                  have HJ8 := Lib.hid (HJ.out.below (below1 wr (.cells #[.int .i64 (ea : Int), .int .i64 (eb : Int)] tP2)))
                  have HPG8 := Lib.hid (HPG.out.below (below1 wr (.cells #[.int .i64 (ea : Int), .int .i64 (eb : Int)] tP2)))
                  have HB8 := Lib.hid (HB3.out.trans ((below1 wr (.cells #[.int .i64 (ea : Int), .int .i64 (eb : Int)] tP2)).mono HB3.out.size))
                  generalize (wr.alloc (.cells #[.int .i64 (ea : Int), .int .i64 (eb : Int)] tP2)) = w8 at K8 HJ8 HPG8 HB8 ⊢
                  clear hc0 hc1
                  obtain ⟨Aa, ma, cAa, na, hua, hma, hza, -, -⟩ := HJ8.out.get hat
                  subst hma
                  have HUAa := Lib.hid hua
                  have HZAa := Lib.hid hza
                  have HLAa := Lib.hid (show na.length ≤ 1000 from by have := (HNB.out na (List.mem_of_getElem? hza)).1; have := HSL.out; omega)
                  have HNB1 := Lib.hid (HNB.out.add (x := eb) (i := ea) hbt)
                  clear hua hza HJ HPG HB3
                  refine AnyT.begin (k := 13) (S := fun b w' => (w'.cell? ⟨wr.heap.size, 0, none⟩ = some (.int .i64 (ea : Int)) ∧ w'.cell? ⟨wr.heap.size, 1, none⟩ = some (.int .i64 (eb : Int))) ∧ (b = false → w'.cell? ⟨gj, ea, none⟩ = some (.slice Aa na.length cAa))) (by kernel_rfl) ?_
                  have hS : (fun (b : Bool) (w' : World) => (w'.cell? ⟨wr.heap.size, 0, none⟩ = some (.int .i64 (ea : Int)) ∧ w'.cell? ⟨wr.heap.size, 1, none⟩ = some (.int .i64 (eb : Int))) ∧ (b = false → w'.cell? ⟨gj, ea, none⟩ = some (.slice Aa na.length cAa))) false w8.drew := ⟨⟨K8.out.cell 0, K8.out.cell 1⟩, fun _ => HJ8.out.two.cell HUAa.out⟩
                  refine AnyT.take0 (i := 0) (v := ?_) rfl (by kernel_rfl) (by kernel_rfl) (by kernel_rfl) (by decide) (fun _ _ _ h => h) hS (Or.inl ⟨by first | kernel_rfl | rfl, ?_⟩) ?_
                  rotate_left
                  · rintro w' ⟨b, hw'⟩; obtain ⟨hw1, -⟩ := hw'; (try (obtain ⟨hw1, hw2⟩ := hw1)); (try (obtain ⟨hw2, hw3⟩ := hw2)); (try (obtain ⟨hw3, hw4⟩ := hw3)); go_simp; try with_reducible rfl
                  try simp only [Act.put, List.setIfInBounds_toArray, List.set_cons_zero, List.set_cons_succ]
                  refine AnyT.take0 (i := 1) (v := ?_) rfl (by kernel_rfl) (by kernel_rfl) (by kernel_rfl) (by decide) (fun _ _ _ h => h) hS (Or.inl ⟨by first | kernel_rfl | rfl, ?_⟩) ?_
                  rotate_left
                  · rintro w' ⟨b, hw'⟩; obtain ⟨hw1, -⟩ := hw'; (try (obtain ⟨hw1, hw2⟩ := hw1)); (try (obtain ⟨hw2, hw3⟩ := hw2)); (try (obtain ⟨hw3, hw4⟩ := hw3)); go_simp; try with_reducible rfl
                  try simp only [Act.put, List.setIfInBounds_toArray, List.set_cons_zero, List.set_cons_succ]
                  refine AnyT.take0 (i := 2) (v := ?_) rfl (by kernel_rfl) (by kernel_rfl) (by kernel_rfl) (by decide) (fun _ _ _ h => h) hS (Or.inl ⟨by first | kernel_rfl | rfl, ?_⟩) ?_
                  rotate_left
                  · rintro w' ⟨b, hw'⟩; obtain ⟨hw1, -⟩ := hw'; (try (obtain ⟨hw1, hw2⟩ := hw1)); (try (obtain ⟨hw2, hw3⟩ := hw2)); (try (obtain ⟨hw3, hw4⟩ := hw3)); go_simp; try with_reducible rfl
                  try simp only [Act.put, List.setIfInBounds_toArray, List.set_cons_zero, List.set_cons_succ]
                  refine AnyT.take0 (i := 3) (v := ?_) rfl (by kernel_rfl) (by kernel_rfl) (by kernel_rfl) (by decide) (fun _ _ _ h => h) hS (Or.inl ⟨by first | kernel_rfl | rfl, ?_⟩) ?_
                  rotate_left
                  · rintro w' ⟨b, hw'⟩; obtain ⟨hw1, -⟩ := hw'; (try (obtain ⟨hw1, hw2⟩ := hw1)); (try (obtain ⟨hw2, hw3⟩ := hw2)); (try (obtain ⟨hw3, hw4⟩ := hw3)); go_simp; try with_reducible rfl
                  try simp only [Act.put, List.setIfInBounds_toArray, List.set_cons_zero, List.set_cons_succ]
                  refine AnyT.take0 (i := 4) (v := ?_) rfl (by kernel_rfl) (by kernel_rfl) (by kernel_rfl) (by decide) (fun _ _ _ h => h) hS (Or.inl ⟨by first | kernel_rfl | rfl, ?_⟩) ?_
                  rotate_left
                  · rintro w' ⟨b, hw'⟩; obtain ⟨hw1, -⟩ := hw'; (try (obtain ⟨hw1, hw2⟩ := hw1)); (try (obtain ⟨hw2, hw3⟩ := hw2)); (try (obtain ⟨hw3, hw4⟩ := hw3)); go_simp; try with_reducible rfl
                  try simp only [Act.put, List.setIfInBounds_toArray, List.set_cons_zero, List.set_cons_succ]
                  refine AnyT.take0 (i := 5) (v := ?_) rfl (by kernel_rfl) (by kernel_rfl) (by kernel_rfl) (by decide) (fun _ _ _ h => h) hS (Or.inl ⟨by first | kernel_rfl | rfl, ?_⟩) ?_
                  rotate_left
                  · rintro w' ⟨b, hw'⟩; obtain ⟨hw1, -⟩ := hw'; (try (obtain ⟨hw1, hw2⟩ := hw1)); (try (obtain ⟨hw2, hw3⟩ := hw2)); (try (obtain ⟨hw3, hw4⟩ := hw3)); go_simp; try with_reducible rfl
                  try simp only [Act.put, List.setIfInBounds_toArray, List.set_cons_zero, List.set_cons_succ]
                  refine AnyT.take0 (i := 6) (v := ?_) rfl (by kernel_rfl) (by kernel_rfl) (by kernel_rfl) (by decide) (fun _ _ _ h => h) hS (Or.inl ⟨by first | kernel_rfl | rfl, ?_⟩) ?_
                  rotate_left
                  · rintro w' ⟨b, hw'⟩; obtain ⟨hw1, -⟩ := hw'; (try (obtain ⟨hw1, hw2⟩ := hw1)); (try (obtain ⟨hw2, hw3⟩ := hw2)); (try (obtain ⟨hw3, hw4⟩ := hw3)); go_simp; try with_reducible rfl
                  try simp only [Act.put, List.setIfInBounds_toArray, List.set_cons_zero, List.set_cons_succ]
                  refine AnyT.take1 (i := 7) (v := ?_) rfl (by kernel_rfl) (by kernel_rfl) (by kernel_rfl) (by decide) (by kernel_rfl) rfl (fun _ _ _ h => h) hS (Or.inl ⟨by first | kernel_rfl | rfl, ?_⟩) ?_
                  rotate_left
                  · intro w' hw'; have hw3 := hw'.2 rfl; go_simp; try with_reducible rfl
                  try simp only [Act.put, List.setIfInBounds_toArray, List.set_cons_zero, List.set_cons_succ]
                  refine AnyT.take0 (i := 8) (v := ?_) rfl (by kernel_rfl) (by kernel_rfl) (by kernel_rfl) (by decide) (fun _ _ _ h => h) hS (Or.inl ⟨by first | kernel_rfl | rfl, ?_⟩) ?_
                  rotate_left
                  · rintro w' ⟨b, hw'⟩; obtain ⟨hw1, -⟩ := hw'; (try (obtain ⟨hw1, hw2⟩ := hw1)); (try (obtain ⟨hw2, hw3⟩ := hw2)); (try (obtain ⟨hw3, hw4⟩ := hw3)); go_simp; try with_reducible rfl
                  try simp only [Act.put, List.setIfInBounds_toArray, List.set_cons_zero, List.set_cons_succ]
                  refine AnyT.take0 (i := 9) (v := ?_) rfl (by kernel_rfl) (by kernel_rfl) (by kernel_rfl) (by decide) (fun _ _ _ h => h) hS (Or.inl ⟨by first | kernel_rfl | rfl, ?_⟩) ?_
                  rotate_left
                  · rintro w' ⟨b, hw'⟩; obtain ⟨hw1, -⟩ := hw'; (try (obtain ⟨hw1, hw2⟩ := hw1)); (try (obtain ⟨hw2, hw3⟩ := hw2)); (try (obtain ⟨hw3, hw4⟩ := hw3)); go_simp; try with_reducible rfl
                  try simp only [Act.put, List.setIfInBounds_toArray, List.set_cons_zero, List.set_cons_succ]
                  refine AnyT.go (rs := [10]) (by kernel_rfl) (by simp) ?_
                  refine AllT.cons rfl (fun K hK => ?_) AllT.nil
                  go_simp
                  have hbx : Below w8.heap.size w8 (w8.drew.alloc (.cells #[.int .i64 (eb : Int)] tN)) := ((Below.refl _ _).drew).alloc (Nat.le_refl _) _
                  have KX9 := Lib.hid (K8.out.below hbx K8.out.lt)
                  have JX9 := Lib.hid (HJ8.out.below hbx)
                  have PX9 := Lib.hid (HPG8.out.below hbx)
                  have BX9 := Lib.hid (HB8.out.trans (hbx.mono HB8.out.size))
                  refine hK.out _ _ ⟨⟨KX9.out.cell 0, KX9.out.cell 1⟩, fun _ => JX9.out.two.cell HUAa.out⟩ (fun hS => ?_)
                  clear hK hbx
                  try simp only [Act.put, List.setIfInBounds_toArray, List.set_cons_zero, List.set_cons_succ]
                  refine AnyT.go (rs := [11]) (by kernel_rfl) (by simp) ?_
                  refine AllT.cons rfl (fun K hK => ?_) AllT.nil
                  refine stp_app1 T_nat (B := wA.heap.size) (v := .slice Aa na.length cAa) (vs := ints (up na)) (W := w8.drew.alloc (.cells #[.int .i64 (eb : Int)] tN)) (u := .int .i64 (eb : Int)) (ad := ⟨w8.heap.size, 0, none⟩) (JX9.out.two.row HUAa.out HZAa.out).1 (by rw [ints_len, up_len]; have := HLAa.out; omega) BX9.out.size (by rfl) rfl (by rfl) (by rfl) (by rfl) ((Blk.new w8.drew _ _).cell 0) ?_
                  intro u9 x9 hown9 hgr9
                  obtain ⟨A9, c9, hv9, -, -⟩ := hown9.cells.open_
                  rw [show (ints (up na) ++ [Value.int .i64 (eb : Int)]).length = na.length + 1 from by simp [ints, up]] at hv9
                  subst hv9
                  have KY9 := Lib.hid (KX9.out.kept hgr9.1 ((JX9.out.two.row HUAa.out HZAa.out).1.bt.ne_blk KX9.out (by decide)))
                  have PY9 := Lib.hid (PX9.out.kept hgr9.1 (JX9.out.two.row HUAa.out HZAa.out).1.bt (by decide) (by decide) (by decide))
                  have BY9 := Lib.hid (hgr9.below BX9.out BX9.out.size (JX9.out.two.row HUAa.out HZAa.out).1.ge)
                  have JY9 := Lib.hid (JX9.out.two.app HUAa.out HZAa.out hown9 (by omega) hgr9)
                  refine hK.out _ _ ⟨⟨KY9.out.cell 0, KY9.out.cell 1⟩, fun _ => JY9.out.cell HUAa.out⟩ (fun hS => ?_)
                  clear hK
                  try simp only [Act.put, List.setIfInBounds_toArray, List.set_cons_zero, List.set_cons_succ]
                  refine AnyT.take0 (i := 12) (v := ?_) rfl (by kernel_rfl) (by kernel_rfl) (by kernel_rfl) (by decide) (fun _ _ _ h => h) hS (Or.inl ⟨by first | kernel_rfl | rfl, ?_⟩) ?_
                  rotate_left
                  · rintro w' ⟨b, hw'⟩; obtain ⟨hw1, -⟩ := hw'; (try (obtain ⟨hw1, hw2⟩ := hw1)); (try (obtain ⟨hw2, hw3⟩ := hw2)); (try (obtain ⟨hw3, hw4⟩ := hw3)); go_simp; try with_reducible rfl
                  try simp only [Act.put, List.setIfInBounds_toArray, List.set_cons_zero, List.set_cons_succ]
                  obtain ⟨⟨z9, q9⟩, qq9, hn9, hg9⟩ := JY9.out.store hat (.slice A9 (na.length + 1) c9)
                  have HJ10 := Lib.hid (hn9.one rfl)
                  have K10 := Lib.hid (KY9.out.kept hg9 (JY9.out.own.bt.ne_blk KY9.out (by decide)))
                  have HPG10 := Lib.hid (PY9.out.kept (v := .slice (some ⟨gj, 0, none⟩) s.tops.length s.tops.length) hg9 JY9.out.own.bt (by decide) (by decide) (by decide))
                  have HB10 := Lib.hid (BY9.out.setCell (p := ⟨gj, ea, none⟩) HJ8.out.ge (.slice A9 (na.length + 1) c9))
                  clear hn9 hg9
                  refine AnyT.go (rs := [13]) (by kernel_rfl) (by simp) ?_
                  refine AllT.cons rfl (fun K hK => ?_) AllT.nil
                  go_simp
                  refine hK.out _ _ ⟨⟨K10.out.cell 0, K10.out.cell 1⟩, fun h => Bool.noConfusion (show true = false from h)⟩ (fun hS => ?_)
                  clear hK hS q9 qq9 hown9 hgr9
                  refine AnyT.done (by kernel_rfl) ?_ _
                  go_upto_region 25 with fail
                  obtain ⟨Ab, mb, cAb, nb, hub, hmb, hzb, -, -⟩ := HJ10.out.get hbt
                  subst hmb
                  have HUAb := Lib.hid hub
                  have HZAb := Lib.hid hzb
                  have HLAb := Lib.hid (show nb.length ≤ 1000 from by have := (HNB1.out nb (List.mem_of_getElem? hzb)).1; have := HSL.out; omega)
                  generalize (x9.setCell ⟨gj, ea, none⟩ (.slice A9 (na.length + 1) c9)) = w12 at K10 HJ10 HPG10 HB10 ⊢
                  clear hub hzb K8 HJ8 HPG8 HB8 KX9 JX9 PX9 BX9 KY9 JY9 PY9 BY9
                  refine AnyT.begin (k := 13) (S := fun b w' => (w'.cell? ⟨wr.heap.size, 0, none⟩ = some (.int .i64 (ea : Int)) ∧ w'.cell? ⟨wr.heap.size, 1, none⟩ = some (.int .i64 (eb : Int))) ∧ (b = false → w'.cell? ⟨gj, eb, none⟩ = some (.slice Ab nb.length cAb))) (by kernel_rfl) ?_
                  have hS : (fun (b : Bool) (w' : World) => (w'.cell? ⟨wr.heap.size, 0, none⟩ = some (.int .i64 (ea : Int)) ∧ w'.cell? ⟨wr.heap.size, 1, none⟩ = some (.int .i64 (eb : Int))) ∧ (b = false → w'.cell? ⟨gj, eb, none⟩ = some (.slice Ab nb.length cAb))) false w12.drew := ⟨⟨K10.out.cell 0, K10.out.cell 1⟩, fun _ => HJ10.out.two.cell HUAb.out⟩
                  refine AnyT.take0 (i := 0) (v := ?_) rfl (by kernel_rfl) (by kernel_rfl) (by kernel_rfl) (by decide) (fun _ _ _ h => h) hS (Or.inl ⟨by first | kernel_rfl | rfl, ?_⟩) ?_
                  rotate_left
                  · rintro w' ⟨b, hw'⟩; obtain ⟨hw1, -⟩ := hw'; (try (obtain ⟨hw1, hw2⟩ := hw1)); (try (obtain ⟨hw2, hw3⟩ := hw2)); (try (obtain ⟨hw3, hw4⟩ := hw3)); go_simp; try with_reducible rfl
                  try simp only [Act.put, List.setIfInBounds_toArray, List.set_cons_zero, List.set_cons_succ]
                  refine AnyT.take0 (i := 1) (v := ?_) rfl (by kernel_rfl) (by kernel_rfl) (by kernel_rfl) (by decide) (fun _ _ _ h => h) hS (Or.inl ⟨by first | kernel_rfl | rfl, ?_⟩) ?_
                  rotate_left
                  · rintro w' ⟨b, hw'⟩; obtain ⟨hw1, -⟩ := hw'; (try (obtain ⟨hw1, hw2⟩ := hw1)); (try (obtain ⟨hw2, hw3⟩ := hw2)); (try (obtain ⟨hw3, hw4⟩ := hw3)); go_simp; try with_reducible rfl
                  try simp only [Act.put, List.setIfInBounds_toArray, List.set_cons_zero, List.set_cons_succ]
                  refine AnyT.take0 (i := 2) (v := ?_) rfl (by kernel_rfl) (by kernel_rfl) (by kernel_rfl) (by decide) (fun _ _ _ h => h) hS (Or.inl ⟨by first | kernel_rfl | rfl, ?_⟩) ?_
                  rotate_left
                  · rintro w' ⟨b, hw'⟩; obtain ⟨hw1, -⟩ := hw'; (try (obtain ⟨hw1, hw2⟩ := hw1)); (try (obtain ⟨hw2, hw3⟩ := hw2)); (try (obtain ⟨hw3, hw4⟩ := hw3)); go_simp; try with_reducible rfl
                  try simp only [Act.put, List.setIfInBounds_toArray, List.set_cons_zero, List.set_cons_succ]
                  refine AnyT.take0 (i := 3) (v := ?_) rfl (by kernel_rfl) (by kernel_rfl) (by kernel_rfl) (by decide) (fun _ _ _ h => h) hS (Or.inl ⟨by first | kernel_rfl | rfl, ?_⟩) ?_
                  rotate_left
                  · rintro w' ⟨b, hw'⟩; obtain ⟨hw1, -⟩ := hw'; (try (obtain ⟨hw1, hw2⟩ := hw1)); (try (obtain ⟨hw2, hw3⟩ := hw2)); (try (obtain ⟨hw3, hw4⟩ := hw3)); go_simp; try with_reducible rfl
                  try simp only [Act.put, List.setIfInBounds_toArray, List.set_cons_zero, List.set_cons_succ]
                  refine AnyT.take0 (i := 4) (v := ?_) rfl (by kernel_rfl) (by kernel_rfl) (by kernel_rfl) (by decide) (fun _ _ _ h => h) hS (Or.inl ⟨by first | kernel_rfl | rfl, ?_⟩) ?_
                  rotate_left
                  · rintro w' ⟨b, hw'⟩; obtain ⟨hw1, -⟩ := hw'; (try (obtain ⟨hw1, hw2⟩ := hw1)); (try (obtain ⟨hw2, hw3⟩ := hw2)); (try (obtain ⟨hw3, hw4⟩ := hw3)); go_simp; try with_reducible rfl
                  try simp only [Act.put, List.setIfInBounds_toArray, List.set_cons_zero, List.set_cons_succ]
                  refine AnyT.take0 (i := 5) (v := ?_) rfl (by kernel_rfl) (by kernel_rfl) (by kernel_rfl) (by decide) (fun _ _ _ h => h) hS (Or.inl ⟨by first | kernel_rfl | rfl, ?_⟩) ?_
                  rotate_left
                  · rintro w' ⟨b, hw'⟩; obtain ⟨hw1, -⟩ := hw'; (try (obtain ⟨hw1, hw2⟩ := hw1)); (try (obtain ⟨hw2, hw3⟩ := hw2)); (try (obtain ⟨hw3, hw4⟩ := hw3)); go_simp; try with_reducible rfl
                  try simp only [Act.put, List.setIfInBounds_toArray, List.set_cons_zero, List.set_cons_succ]
                  refine AnyT.take0 (i := 6) (v := ?_) rfl (by kernel_rfl) (by kernel_rfl) (by kernel_rfl) (by decide) (fun _ _ _ h => h) hS (Or.inl ⟨by first | kernel_rfl | rfl, ?_⟩) ?_
                  rotate_left
                  · rintro w' ⟨b, hw'⟩; obtain ⟨hw1, -⟩ := hw'; (try (obtain ⟨hw1, hw2⟩ := hw1)); (try (obtain ⟨hw2, hw3⟩ := hw2)); (try (obtain ⟨hw3, hw4⟩ := hw3)); go_simp; try with_reducible rfl
                  try simp only [Act.put, List.setIfInBounds_toArray, List.set_cons_zero, List.set_cons_succ]
                  refine AnyT.take1 (i := 7) (v := ?_) rfl (by kernel_rfl) (by kernel_rfl) (by kernel_rfl) (by decide) (by kernel_rfl) rfl (fun _ _ _ h => h) hS (Or.inl ⟨by first | kernel_rfl | rfl, ?_⟩) ?_
                  rotate_left
                  · intro w' hw'; have hw3 := hw'.2 rfl; go_simp; try with_reducible rfl
                  try simp only [Act.put, List.setIfInBounds_toArray, List.set_cons_zero, List.set_cons_succ]
                  refine AnyT.take0 (i := 8) (v := ?_) rfl (by kernel_rfl) (by kernel_rfl) (by kernel_rfl) (by decide) (fun _ _ _ h => h) hS (Or.inl ⟨by first | kernel_rfl | rfl, ?_⟩) ?_
                  rotate_left
                  · rintro w' ⟨b, hw'⟩; obtain ⟨hw1, -⟩ := hw'; (try (obtain ⟨hw1, hw2⟩ := hw1)); (try (obtain ⟨hw2, hw3⟩ := hw2)); (try (obtain ⟨hw3, hw4⟩ := hw3)); go_simp; try with_reducible rfl
                  try simp only [Act.put, List.setIfInBounds_toArray, List.set_cons_zero, List.set_cons_succ]
                  refine AnyT.take0 (i := 9) (v := ?_) rfl (by kernel_rfl) (by kernel_rfl) (by kernel_rfl) (by decide) (fun _ _ _ h => h) hS (Or.inl ⟨by first | kernel_rfl | rfl, ?_⟩) ?_
                  rotate_left
                  · rintro w' ⟨b, hw'⟩; obtain ⟨hw1, -⟩ := hw'; (try (obtain ⟨hw1, hw2⟩ := hw1)); (try (obtain ⟨hw2, hw3⟩ := hw2)); (try (obtain ⟨hw3, hw4⟩ := hw3)); go_simp; try with_reducible rfl
                  try simp only [Act.put, List.setIfInBounds_toArray, List.set_cons_zero, List.set_cons_succ]
                  refine AnyT.go (rs := [10]) (by kernel_rfl) (by simp) ?_
                  refine AllT.cons rfl (fun K hK => ?_) AllT.nil
                  go_simp
                  have hbx : Below w12.heap.size w12 (w12.drew.alloc (.cells #[.int .i64 (ea : Int)] tN)) := ((Below.refl _ _).drew).alloc (Nat.le_refl _) _
                  have KX13 := Lib.hid (K10.out.below hbx K10.out.lt)
                  have JX13 := Lib.hid (HJ10.out.below hbx)
                  have PX13 := Lib.hid (HPG10.out.below hbx)
                  have BX13 := Lib.hid (HB10.out.trans (hbx.mono HB10.out.size))
                  refine hK.out _ _ ⟨⟨KX13.out.cell 0, KX13.out.cell 1⟩, fun _ => JX13.out.two.cell HUAb.out⟩ (fun hS => ?_)
                  clear hK hbx
                  try simp only [Act.put, List.setIfInBounds_toArray, List.set_cons_zero, List.set_cons_succ]
                  refine AnyT.go (rs := [11]) (by kernel_rfl) (by simp) ?_
                  refine AllT.cons rfl (fun K hK => ?_) AllT.nil
                  refine stp_app1 T_nat (B := wA.heap.size) (v := .slice Ab nb.length cAb) (vs := ints (up nb)) (W := w12.drew.alloc (.cells #[.int .i64 (ea : Int)] tN)) (u := .int .i64 (ea : Int)) (ad := ⟨w12.heap.size, 0, none⟩) (JX13.out.two.row HUAb.out HZAb.out).1 (by rw [ints_len, up_len]; have := HLAb.out; omega) BX13.out.size (by rfl) rfl (by rfl) (by rfl) (by rfl) ((Blk.new w12.drew _ _).cell 0) ?_
                  intro u13 x13 hown13 hgr13
                  obtain ⟨A13, c13, hv13, -, -⟩ := hown13.cells.open_
                  rw [show (ints (up nb) ++ [Value.int .i64 (ea : Int)]).length = nb.length + 1 from by simp [ints, up]] at hv13
                  subst hv13
                  have KY13 := Lib.hid (KX13.out.kept hgr13.1 ((JX13.out.two.row HUAb.out HZAb.out).1.bt.ne_blk KX13.out (by decide)))
                  have PY13 := Lib.hid (PX13.out.kept hgr13.1 (JX13.out.two.row HUAb.out HZAb.out).1.bt (by decide) (by decide) (by decide))
                  have BY13 := Lib.hid (hgr13.below BX13.out BX13.out.size (JX13.out.two.row HUAb.out HZAb.out).1.ge)
                  have JY13 := Lib.hid (JX13.out.two.app HUAb.out HZAb.out hown13 (by omega) hgr13)
                  refine hK.out _ _ ⟨⟨KY13.out.cell 0, KY13.out.cell 1⟩, fun _ => JY13.out.cell HUAb.out⟩ (fun hS => ?_)
                  clear hK
                  try simp only [Act.put, List.setIfInBounds_toArray, List.set_cons_zero, List.set_cons_succ]
                  refine AnyT.take0 (i := 12) (v := ?_) rfl (by kernel_rfl) (by kernel_rfl) (by kernel_rfl) (by decide) (fun _ _ _ h => h) hS (Or.inl ⟨by first | kernel_rfl | rfl, ?_⟩) ?_
                  rotate_left
                  · rintro w' ⟨b, hw'⟩; obtain ⟨hw1, -⟩ := hw'; (try (obtain ⟨hw1, hw2⟩ := hw1)); (try (obtain ⟨hw2, hw3⟩ := hw2)); (try (obtain ⟨hw3, hw4⟩ := hw3)); go_simp; try with_reducible rfl
                  try simp only [Act.put, List.setIfInBounds_toArray, List.set_cons_zero, List.set_cons_succ]
                  obtain ⟨⟨z13, q13⟩, qq13, hn13, hg13⟩ := JY13.out.store hbt (.slice A13 (nb.length + 1) c13)
                  have HJ14 := Lib.hid (hn13.one rfl)
                  have K14 := Lib.hid (KY13.out.kept hg13 (JY13.out.own.bt.ne_blk KY13.out (by decide)))
                  have HPG14 := Lib.hid (PY13.out.kept (v := .slice (some ⟨gj, 0, none⟩) s.tops.length s.tops.length) hg13 JY13.out.own.bt (by decide) (by decide) (by decide))
                  have HB14 := Lib.hid (BY13.out.setCell (p := ⟨gj, eb, none⟩) HJ10.out.ge (.slice A13 (nb.length + 1) c13))
                  clear hn13 hg13
                  refine AnyT.go (rs := [13]) (by kernel_rfl) (by simp) ?_
                  refine AllT.cons rfl (fun K hK => ?_) AllT.nil
                  go_simp
                  refine hK.out _ _ ⟨⟨K14.out.cell 0, K14.out.cell 1⟩, fun h => Bool.noConfusion (show true = false from h)⟩ (fun hS => ?_)
                  clear hK hS q13 qq13 hown13 hgr13
                  refine AnyT.done (by kernel_rfl) ?_ _
                  go_wp2_with fail
                  go_roundw
                  case rel =>
                    have hf := HJ14.out
                    rw [← HSN.out] at hf
                    exact ⟨j + 1, _, by omega, by go_num, HPG14.out, hf, HB14.out⟩
                  case measure => simp [intOf]; omega
                · have : j = s.bet.length := by omega
                  subst this
                  rw [joinTo_all] at HJ
                  have HNB := Lib.hid (show NB (joinN s) 16 s.tops.length from by rw [← joinTo_all]; exact (HJB.out _ (Nat.le_refl _)).mono (by have := HSL.out; omega))
                  obtain ⟨r, hr, -, -⟩ := canO_8 HOK.out.2.2.1 HOK.out.2.2.2.1
                  have HR := Lib.hid hr
                  have HRL := Lib.hid (show r.length ≤ 8 from by rw [canO_len hr]; exact HOK.out.2.2.2.1)
                  have hlen0 : 0 < s.tops.length := by rw [HOK.out.1]; simp
                  clear hr
                  go_wp2_with (first
                    | (go_at_call 157; refine (i_forestOf _ _ pcs (HPG.out.pr.rows HPG.out.po) (by rw [HLE.out]; omega) (fun b hb => by have := HPL.out b hb; omega)).mono ?_; rintro e wf ⟨xf, rfl, hf, hbf⟩; have HF := Lib.hid hf; have HBF := Lib.hid hbf; clear hf hbf; have hI := i_treeFrom 9 wf _ (joinN s) 0 0 r (HJ.out.rows.below HBF.out) (by rw [HOK.out.2.2.2.2]; exact HR.out) (by have := HRL.out; omega) (by rw [HJ.out.len']; omega) (by rw [HJ.out.len']; exact hlen0) (by omega) (fun ns hns n hn => by rw [HJ.out.len']; exact (HNB.out ns hns).2 n hn); rw [show (((0 : Nat) : Int) - 1) = -1 from rfl, show ((0 : Nat) : Int) = 0 from rfl] at hI; have HI := Lib.hid hI; clear hI)
                    | (go_at_call 147; refine HI.out.mono ?_; rintro e w2 ⟨r2, rfl, ho2, hb2⟩; have HO2 := Lib.hid ho2; have HB2 := Lib.hid hb2; clear ho2 hb2))
                  go_ret2
                  have hb1 := HB.out.trans (HB3.out.mono HB.out.size)
                  have hb2 := hb1.trans (HBF.out.mono hb1.size)
                  have hb3 := hb2.trans (HB2.out.mono hb2.size)
                  obtain ⟨vsF, hF1, hF2, hF3⟩ := HF.out
                  refine ⟨xf, r2, pcs, r, rfl, ?_, HR.out, ⟨vsF, (hF1.below HB2.out).mono hb1.size, (hF2.below HB2.out).mono hb1.size, pairApart_snoc hF3 (hF2.fresh (Nat.le_refl _) (fun b hb => HO2.out.1.ge b hb)), HO2.out.mono hb2.size⟩, hb3⟩
                  rw [← HOK.out.1]; exact HPC.out
theorem i_cutUp (w : World) (v : Value) (t : List Nat) (m : Nat) (ha : Ints w v (up t)) (hlv : lvl t = true) (h8 : t.length ≤ 8) (hcan : canO 9 t = some t) (hm : m < 2 ^ t.length) (h2 : m % 2 = 0) (hl : ∀ l ∈ t, l ≤ 1000000) :
    Calls Try.prog 97 #[v, .int .i64 m] w fun e w' => ∃ x y pcs r, e = .returned (.tuple #[x, y]) ∧ mapO (fun i => canO 9 (pieN t m i)) (0 :: cutsN m (t.length - 1) 1) = some pcs ∧ canO 9 (sklN t m) = some r ∧
      LA w' w.heap.size x ((srtB pcs).map up) ∧ OwnInts w' w.heap.size tI y (up r) ∧ Below w.heap.size w w' := by
  refine (i_cutUpA w v t m ha hlv h8 hcan hm h2 hl).mono ?_
  rintro e w' ⟨x, y, pcs, r, he, h1, h2, ⟨vs, g1, g2, g3, g4⟩, hb⟩
  exact ⟨x, y, pcs, r, he, h1, h2, ⟨vs, g1, g2, (List.pairwise_append.1 g3).1⟩, g4, hb⟩
end Go.Proofs.Ytbjeibcombjfgaa

