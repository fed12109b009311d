/- DROP Walk: mapPartitions of the program. | Walks: plus of the program, l02Add of the reference. | Walks: FirstError of the program and of the reference. -/
import Derived.Test.YtngdpoeondnchaaGreatR28
import Derived.Test.YtngdpoeondnchaaGreatR29
import Derived.Test.YtngdpoeondnchaaGreatR16
import Derived.Test.YtngdpoeondnchaaGreatR2
import Derived.Test.YtngdpoeondnchaaGreatR30
import Derived.Test.YtngdpoeondnchaaGreatR27
set_option maxRecDepth 100000
set_option linter.unusedVariables false
set_option linter.unusedSimpArgs false
namespace Go.Proofs.YtngdpoeondnchaaGreat
open Go.RowKit

theorem grpS_mem {α : Type} {cmp : α → α → Int} {out : List (α × Nat)} {s : α} {x : α × Nat} (h : x ∈ grpS cmp out s) : x.1 = s ∨ ∃ y ∈ out, y.1 = x.1 := by
  cases hl : lastEq cmp out s with
  | false =>
    rw [grp_false hl] at h
    rcases List.mem_append.1 h with h | h
    · exact .inr ⟨x, h, rfl⟩
    · simp at h; subst h; exact .inl rfl
  | true =>
    obtain ⟨m, r, n, h1, h2, h3⟩ := grp_true hl
    rw [h3] at h
    rcases List.mem_or_eq_of_mem_set h with h | rfl
    · exact .inr ⟨x, h, rfl⟩
    · exact .inr ⟨(r, n), List.mem_of_getElem? h2, rfl⟩
theorem grpF_mem {α : Type} {cmp : α → α → Int} : ∀ (l : List α) (out : List (α × Nat)) (x : α × Nat), x ∈ l.foldl (grpS cmp) out → x.1 ∈ l ∨ ∃ y ∈ out, y.1 = x.1
  | [], out, x, h => .inr ⟨x, h, rfl⟩
  | s :: l, out, x, h => by
    rw [List.foldl_cons] at h
    rcases grpF_mem l _ x h with h | ⟨y, hy, e⟩
    · exact .inl (by simp [h])
    · rcases grpS_mem hy with h2 | ⟨z, hz, e2⟩
      · exact .inl (by rw [← e, h2]; simp)
      · exact .inr ⟨z, hz, by rw [e2, e]⟩
theorem prtG_cr {t : List Nat} (ht : t ∈ T6n) {x : PK × Nat} (h : x ∈ prtG t) : x.1.1.length ≤ 8 := by
  unfold prtG at h
  rcases grpF_mem _ _ _ h with h | ⟨y, hy, -⟩
  · have h2 : x.1 ∈ prtL t (2 ^ (t.length - 1)) := by
      have hp := srtSF_perm (lt := ltP) [] (prtL t (2 ^ (t.length - 1)))
      rw [List.nil_append] at hp
      exact hp.mem_iff.1 h
    unfold prtL at h2
    obtain ⟨i, hi, he⟩ := List.mem_map.1 h2
    obtain ⟨sk, pcs, hpa⟩ := prt_at ht (i := i) (by simpa using hi)
    rw [← he, hpa.prt]
    exact hpa.pl
  · simp at hy
set_option maxHeartbeats 16000000 in
theorem i_mapPartitions (w : World) (v : Value) (B : Option Addr) (m0 d : Nat) (ha : Rows w v (T6n.map up)) :
    Calls Tryz.prog 55 #[.agg #[v, .slice B m0 d]] w fun e w' => ∃ x, e = .returned x ∧ Prs w' w.heap.size x ∧ Below w.heap.size w w' := by
  obtain ⟨A, cA, he, -, -, -⟩ := ha.open_
  rw [List.length_map, T6n_len] at he
  subst he
  obtain ⟨w2, hw2⟩ : ∃ w2, w2 = (w.alloc (.cells #[.slice A 37 cA, .slice B m0 d] tFo)).alloc (.cells #[] tMpl) := ⟨_, rfl⟩
  have hb2 : Below w.heap.size w w2 := by rw [hw2]; exact (below1 w _).trans ((below1 _ _).mono (by simp))
  have HS2 := Lib.hid (show w2.heap.size = w.heap.size + 2 from by rw [hw2]; simp)
  have HB2 := Lib.hid hb2
  have HRA := Lib.hid (ha.below hb2)
  have HBX := Lib.hid (show Blk w2 w.heap.size tFo #[.slice A 37 cA, .slice B m0 d] from by rw [hw2]; exact (Blk.new w _ _).alloc _)
  have OL := Lib.hid (show Own w2 w.heap.size tMpl (.slice (some ⟨w.heap.size + 1, 0, none⟩) 0 0) [] from by
    rw [hw2]
    have h := own_lit (w.alloc (.cells #[.slice A 37 cA, .slice B m0 d] tFo)) tMpl [] (by simp [maxLen])
    rw [size_alloc'] at h
    exact h.mono (Nat.le_succ _))
  have HRQ0 := Lib.hid (fun wq (o : Value) (hg : Grow w2 wq (.slice (some ⟨w.heap.size + 1, 0, none⟩) 0 0) o) => ha.below (hg.below HB2.out HB2.out.size OL.out.ge))
  obtain ⟨ad0, -, -, -, rfl, -⟩ := HRA.out.tree (i := 0) (by omega)
  clear ha hb2
  go_enter Tryz.func55, Tryz.ntmps55
  go_wp2_with fail
  rw [← hw2]
  clear hw2
  go_loopw [3, 16] (fun o x wr => ∃ (i : Nat) (us : List Value), i ≤ 37 ∧ x = .int .i64 i ∧ Own wr w.heap.size tMpl o us ∧ MPs wr w.heap.size us ((T6n.take i).map prtI) ∧ Grow w2 wr (.slice (some ⟨w.heap.size + 1, 0, none⟩) 0 0) o) (fun _ x _ => 37 - (intOf x).toNat)
  case atStart => exact ⟨0, [], by omega, rfl, OL.out, MPs.nil _ _, Grow.refl _ _⟩
  case round =>
    obtain ⟨i, us, hi, rfl, hy, hm, hg⟩ := hrel
    rename World => wq
    have HY := Lib.hid hy
    have HM := Lib.hid hm
    have HG := Lib.hid hg
    have HBQ := Lib.hid (show Below w.heap.size w wq from hg.below HB2.out HB2.out.size OL.out.ge)
    have hne1 : (Value.slice (some ⟨w.heap.size + 1, 0, none⟩) 0 0).ownBlock ≠ some w.heap.size := by simp [Value.ownBlock]
    have HBXq := Lib.hid (HBX.out.keptG hg.1 hne1)
    have HRQ := Lib.hid (show Rows wq (.slice (some ad0) 37 cA) (T6n.map up) from HRQ0.out wq _ hg)
    have husl : us.length ≤ 37 := by rw [hm.1, List.length_map, List.length_take]; omega
    obtain ⟨Ay, cy, rfl, -, -⟩ := hy.cells.open_
    clear hy hm hg hne1
    by_cases hlt : i < 37
    · obtain ⟨ad, At, ct, t, hade, ht, hti, hcr⟩ := HRQ.out.tree hlt
      injection hade with hade
      subst hade
      have htm := List.mem_of_getElem? ht
      obtain ⟨htl, ht1, ht6, htl6⟩ := T6n_at htm
      have hcan := T6n_canon htm
      have HTI := Lib.hid hti
      have HTS := Lib.hid (show (T6n.take (i + 1)).map prtI = (T6n.take i).map prtI ++ [prtI t] from by rw [List.take_add_one, ht, List.map_append]; rfl)
      have HPO := Lib.hid (fun W (h : Ints W (.slice At t.length ct) (up t)) => i_partitionsOf W _ t h htl (by omega) hcan (fun l hl => by have := htl6 l hl; omega))
      have hpl := prtG_len t ht6
      have hplc : ∀ x ∈ prtG t, x.1.1.length ≤ 8 := fun x hx => prtG_cr htm hx
      obtain ⟨P, hP⟩ : ∃ P, P = prtG t := ⟨_, rfl⟩
      rw [← hP] at hpl hplc
      have HPLC := Lib.hid hplc
      have HPL := Lib.hid hpl
      have HPG := Lib.hid hP
      have hii : (i : Int) < 37 := by omega
      have OL2 := Lib.hid (show OwnK (wq.alloc (.cells #[] tMp)) wq.heap.size tMp 3 (.slice (some ⟨wq.heap.size, 0, none⟩) 0 0) [] from OwnK.lit wq tMp 3 [] (fun c hc => by simp at hc) (by simp [maxLen]) #[] rfl)
      clear ht htm htl ht1 ht6 htl6 hcan hti hpl hP hplc
      go_wp2_with (go_at_call 111; go_loud (refine (HPO.out _ (HTI.out.below (below1 wq _))).mono ?_; rintro e w3 ⟨x3, rfl, hx3, hb3⟩; obtain ⟨css2, ho2, he2⟩ := hx3; obtain ⟨A2, c2, rfl, -, -⟩ := ho2.open_; have HO2 := Lib.hid ho2; have HE2 := Lib.hid (show Elts ePc w3 _ css2 (prtG t) from he2); have HB3 := Lib.hid hb3; clear ho2 he2 hb3))
      have he2 := HE2.out
      rw [← HPG.out] at he2
      have hcl := he2.1
      have HCL := Lib.hid hcl
      have hc5 : css2.length ≤ 500 := by rw [hcl]; exact HPL.out.1
      have HE3 := Lib.hid (he2.mono (show wq.heap.size ≤ _ from by simp))
      have HBW := Lib.hid (show Below wq.heap.size wq w3 from (below1 wq _).trans (HB3.out.mono (by simp)))
      have OL3 := Lib.hid (show OwnK w3 wq.heap.size tMp 3 (.slice (some ⟨wq.heap.size, 0, none⟩) 0 0) [] from OL2.out.below HB3.out)
      clear he2 hcl HE2 OL2
      go_loopw [6, 24] (fun o x wm => ∃ (j : Nat) (css3 : List (List Value)), j ≤ css2.length ∧ x = .int .i64 j ∧ OwnK wm wq.heap.size tMp 3 o css3 ∧ Mcs wm wq.heap.size css3 ((P.take j).map prtU) ∧ Grow w3 wm (.slice (some ⟨wq.heap.size, 0, none⟩) 0 0) o) (fun _ x _ => css2.length - (intOf x).toNat)
      case atStart => exact ⟨0, [], Nat.zero_le _, rfl, OL3.out, Mcs.nil _ _, Grow.refl _ _⟩
      case round =>
        obtain ⟨j, css3, hj, rfl, ho3, hm3, hg3⟩ := hrel
        rename World => wm
        have HO3 := Lib.hid ho3
        have HM3 := Lib.hid hm3
        have HG3 := Lib.hid hg3
        have HBC := Lib.hid (hg3.below HBW.out HBW.out.size (OL3.out.ge))
        have hcl3 : css3.length ≤ 500 := by rw [hm3.1, List.length_map, List.length_take]; omega
        by_cases hlj : j < css2.length
        · obtain ⟨⟨⟨cr, tr⟩, n⟩, hy⟩ : ∃ y, P[j]? = some y := ⟨_, List.getElem?_eq_getElem (by rw [← HCL.out]; exact hlj)⟩
          have hn := HPL.out.2 _ (List.mem_of_getElem? hy)
          have ho2 := HO2.out.kept hg3.1 (HO2.out.bt.ne OL3.out.bt (by decide))
          have he2 := HE3.out.kept hg3.1 OL3.out.bt (by decide) (by decide)
          obtain ⟨cyy, hcy, hD⟩ := he2.at_ hy
          obtain ⟨u, s, rfl, hu0, hs0⟩ := hD
          have hu1 : LL wm wq.heap.size u (cr.map up) := (show LA wm wq.heap.size u (cr.map up) from hu0).ll
          have hs1 : OwnInts wm wq.heap.size tI s (up tr) := hs0
          obtain ⟨Au, cu, rfl, -, -, -⟩ := hu1.rows.open_
          obtain ⟨As, cs, rfl, -, -, -⟩ := hs1.ints.open_
          rw [up_len] at hs1 hcy
          rw [List.length_map] at hu1 hcy
          obtain ⟨go, cg, heo, hg0⟩ := ho2.cell (j := 0) hcy rfl
          simp only [Value.slice.injEq] at heo
          obtain ⟨rfl, -, rfl⟩ := heo
          have hq0 : wm.cell? ⟨go, j * 3, none⟩ = some (.slice Au cr.length cu) := hg0
          have hq1 : wm.cell? ⟨go, j * 3 + 1, none⟩ = some (.slice As tr.length cs) := by obtain ⟨g', c', he', h'⟩ := ho2.cell (j := 1) hcy rfl; simp only [Value.slice.injEq, Option.some.injEq, Addr.mk.injEq, and_true, true_and] at he'; rw [he'.1]; exact h'
          have hq2 : wm.cell? ⟨go, j * 3 + 2, none⟩ = some (.int .i64 (n : Nat)) := by obtain ⟨g', c', he', h'⟩ := ho2.cell (j := 2) hcy rfl; simp only [Value.slice.injEq, Option.some.injEq, Addr.mk.injEq, and_true, true_and] at he'; rw [he'.1]; exact h'
          have HTJ := Lib.hid (show (P.take (j + 1)).map prtU = (P.take j).map prtU ++ [prtU ((cr, tr), n)] from by rw [List.take_add_one, hy, List.map_append]; rfl)
          have hcr6 : cr.length ≤ 8 := HPLC.out _ (List.mem_of_getElem? hy)
          have HU := Lib.hid hu1
          have HS := Lib.hid hs1
          have hjj : (j : Int) < (css2.length : Int) := by omega
          have HFC := Lib.hid (HBXq.out.below HBC.out HBXq.out.lt)
          have hf0 : wm.cell? ⟨w.heap.size, 0, none⟩ = some (.slice (some ad0) 37 cA) := HFC.out.cell 0
          have hf1 : wm.cell? ⟨w.heap.size, 1, none⟩ = some (.slice B m0 d) := HFC.out.cell 1
          have HRC := Lib.hid (HRQ.out.below HBC.out)
          clear hu0 hs0 hu1 hs1 hg0 hcy hy ho2 he2 ho3 hm3 hg3 hn
          go_upto_region 9 with fail
          obtain ⟨W8, hW8⟩ : ∃ W8, W8 = wm.alloc (.cells #[.slice Au cr.length cu, .slice As tr.length cs, .int .i64 n] tPt) := ⟨_, rfl⟩
          have hb8 : Below wm.heap.size wm W8 := by rw [hW8]; exact below1 wm _
          have HB8 := Lib.hid hb8
          have HP8 := Lib.hid (show Blk W8 wm.heap.size tPt #[.slice Au cr.length cu, .slice As tr.length cs, .int .i64 n] from by rw [hW8]; exact Blk.new _ _ _)
          rw [← hW8]
          have hsz8 : W8.heap.size = wm.heap.size + 1 := by rw [hW8]; simp
          clear hW8
          have hz0 : W8.cell? ⟨wm.heap.size, 0, none⟩ = some (.slice Au cr.length cu) := HP8.out.cell 0
          have hz1 : W8.cell? ⟨wm.heap.size, 1, none⟩ = some (.slice As tr.length cs) := HP8.out.cell 1
          have hz2 : W8.cell? ⟨wm.heap.size, 2, none⟩ = some (.int .i64 n) := HP8.out.cell 2
          have hf0 := keepCell hb8 hf0
          have hf1 := keepCell hb8 hf1
          have HR8 := Lib.hid (HRC.out.below hb8)
          have HS8 := Lib.hid (HS.out.below hb8)
          clear hb8
          have hix := idxN_le T6n tr
          rw [T6n_len] at hix
          obtain ⟨ix, hixx⟩ : ∃ ix, ix = idxN T6n tr := ⟨_, rfl⟩
          have HIX := Lib.hid hixx
          clear hixx hix
          go_cut [9, 24] from 24 to 55 (fun x iv wx => iv = .int .i64 j ∧ ∃ q, x = .pointer (some ⟨q, 0, none⟩) ∧ W8.heap.size ≤ q ∧ Blk wx q tMp #[.int .i64 n, .slice none 0 0, .int .i64 (ix : Nat)] ∧ Below W8.heap.size W8 wx)
          case first =>
            have hd1 : ∀ o, Below W8.heap.size W8 (W8.drew.alloc o) := fun o => below_of_drew (below1 W8.drew o)
            have hd2 : ∀ o o', Below W8.heap.size W8 ((W8.alloc o).drew.alloc o') := fun o o' => (below1 W8 o).trans ((below_of_drew (below1 (W8.alloc o).drew o')).mono (by simp))
            have kz2 : ∀ o, (W8.alloc o).cell? ⟨wm.heap.size, 2, none⟩ = some (.int .i64 n) := fun o => (HP8.out.alloc o).cell 2
            have kz1 : ∀ o, (W8.alloc o).cell? ⟨wm.heap.size, 1, none⟩ = some (.slice As tr.length cs) := fun o => (HP8.out.alloc o).cell 1
            have kf0 : ∀ o, (W8.alloc o).cell? ⟨w.heap.size, 0, none⟩ = some (.slice (some ad0) 37 cA) := fun o => keepCell (below1 W8 o) hf0
            have kf1 : ∀ o, (W8.alloc o).cell? ⟨w.heap.size, 1, none⟩ = some (.slice B m0 d) := fun o => keepCell (below1 W8 o) hf1
            have HA1 := Lib.hid (fun o => (HR8.out.below (below1 W8 o)))
            have HA2 := Lib.hid (fun o => (HS8.out.below (below1 W8 o)).ints)
            go_region_law ((go_simp; go_at_call 112; refine (i_place _ _ _ _ _ _ T6n tr (by first | exact HR8.out | exact HA1.out _) (by first | exact HS8.out.ints | exact HA2.out _) (by rw [T6n_len]; omega)).mono ?_; rintro e w5 ⟨rfl, hw5⟩; rw [← HIX.out]; have hb5 : Below W8.heap.size W8 w5 := (by rw [hw5]; first | exact hd1 _ | exact hd2 _ _); have HB5 := Lib.hid hb5; have kz : w5.cell? ⟨wm.heap.size, 2, none⟩ = some (.int .i64 n) := (HP8.out.below hb5 HP8.out.lt).cell 2; have kza : ∀ o, (w5.alloc o).cell? ⟨wm.heap.size, 2, none⟩ = some (.int .i64 n) := fun o => ((HP8.out.below hb5 HP8.out.lt).alloc o).cell 2; (first | (have hbk : Blk w5 (wm.heap.size + 1) tMp #[.int .i64 0, .slice none 0 0, .int .i64 0] := (by rw [hw5, ← hsz8]; exact (Blk.new W8 _ _).alloc _); have HBK := Lib.hid hbk; have b0 : w5.cell? ⟨wm.heap.size + 1, 0, none⟩ = some (.int .i64 0) := hbk.cell 0; have b1 : w5.cell? ⟨wm.heap.size + 1, 1, none⟩ = some (.slice none 0 0) := hbk.cell 1; have b2 : w5.cell? ⟨wm.heap.size + 1, 2, none⟩ = some (.int .i64 0) := hbk.cell 2; have c0 := hbk.frozen 0; have c1 := hbk.frozen 1; have c2 := hbk.frozen 2; clear hbk) | skip); clear hw5 hb5))
            all_goals
              go_wp2_with fail
              go_meet
              first
                | exact ⟨rfl, _, rfl, HB5.out.size, Blk.new w5 _ _, HB5.out.trans ((below1 w5 _).mono HB5.out.size)⟩
                | exact ⟨rfl, _, rfl, by omega, ((HBK.out.set_ 0 (.int .i64 n)).set_ 1 (.slice none 0 0)).set_ 2 (.int .i64 (ix : Nat)), ((HB5.out.setCell (p := ⟨wm.heap.size + 1, 0, none⟩) (by show _ ≤ wm.heap.size + 1; omega) _).setCell (p := ⟨wm.heap.size + 1, 1, none⟩) (by show _ ≤ wm.heap.size + 1; omega) _).setCell (p := ⟨wm.heap.size + 1, 2, none⟩) (by show _ ≤ wm.heap.size + 1; omega) _⟩
          case rest =>
            obtain ⟨rfl, q, rfl, hq, hblk, hb10⟩ := hcut
            have HQ9 := Lib.hid hblk
            have HB9 := Lib.hid hb10
            have HQL := Lib.hid hq
            have hq0c : wc.cell? ⟨wm.heap.size, 0, none⟩ = some (.slice Au cr.length cu) := keepCell hb10 hz0
            clear hf0 hf1 hz0 hz1 hz2 hblk
            go_wp2_with fail
            go_loopw [38] (fun x wd => ∃ (k : Nat) (s7 : Value), k ≤ cr.length ∧ x = .int .i64 k ∧ Blk wd q tMp #[.int .i64 n, s7, .int .i64 (ix : Nat)] ∧ OwnInts wd wc.heap.size tN s7 (up ((cr.take k).map (idxN T6n))) ∧ Below W8.heap.size W8 wd ∧ wc.heap.size ≤ wd.heap.size) (fun x _ => cr.length - (intOf x).toNat)
            case atStart => exact ⟨0, _, Nat.zero_le _, rfl, HQ9.out, OwnInts.nil _ _ _, HB9.out, Nat.le_refl _⟩
            case round =>
              obtain ⟨k, s7, hk, rfl, h7, hs7, hbd, hwd⟩ := hrel
              rename World => wd
              have hsz := hbd.size
              obtain ⟨A7, c7, he7, -, -, -⟩ := hs7.ints.open_
              rw [up_len, List.length_map, List.length_take, Nat.min_eq_left hk] at he7
              subst he7
              have H7 := Lib.hid h7
              have HS7 := Lib.hid hs7
              have HBD := Lib.hid hbd
              have hp7l := h7.lt
              by_cases hlk : k < cr.length
              · obtain ⟨x, hx⟩ : ∃ x, cr[k]? = some x := ⟨_, List.getElem?_eq_getElem hlk⟩
                obtain ⟨vcr, hvcr, hrcr⟩ := HU.out.below (HB8.out.trans (hbd.mono HB8.out.size))
                have hlv : vcr.length = cr.length := by rw [hrcr.1, List.length_map]
                obtain ⟨au, Ax, cx, rfl, hxi, hxc⟩ : ∃ au Ax cx, Au = some au ∧ OwnInts wd wq.heap.size tI (.slice Ax x.length cx) (up x) ∧ wd.cell? (au.add k) = some (.slice Ax x.length cx) := by
                  obtain ⟨u, hu⟩ : ∃ u, vcr[k]? = some u := ⟨_, List.getElem?_eq_getElem (by rw [hlv]; exact hlk)⟩
                  obtain ⟨ad', n', c', he, hc⟩ := hvcr.cells.at_ hu
                  injection he with he _ _
                  have h := hrcr.2 k u (up x) hu (by rw [List.getElem?_map, hx]; rfl)
                  obtain ⟨At', ct', rfl, -, -, -⟩ := h.ints.open_
                  rw [up_len] at h hc
                  exact ⟨ad', At', ct', he, h, hc⟩
                have HXI := Lib.hid hxi
                have HXK := Lib.hid (show (cr.take (k + 1)).map (idxN T6n) = (cr.take k).map (idxN T6n) ++ [idxN T6n x] from by rw [List.take_add_one, hx, List.map_append]; rfl)
                have hkk : (k : Int) < (cr.length : Int) := by omega
                have HPD := Lib.hid ((HFC.out.below HB8.out HFC.out.lt).below HBD.out (Nat.lt_of_lt_of_le HFC.out.lt HB8.out.size))
                have hf0 : wd.cell? ⟨w.heap.size, 0, none⟩ = some (.slice (some ad0) 37 cA) := HPD.out.cell 0
                have hf1 : wd.cell? ⟨w.heap.size, 1, none⟩ = some (.slice B m0 d) := HPD.out.cell 1
                have hp1 : wd.cell? ⟨q, 1, none⟩ = some (.slice A7 k c7) := H7.out.cell 1
                clear hx hvcr hrcr hlv hxi h7 hs7 hbd
                go_upto_region 13 with fail
                have hdr : ∀ o, Below wd.heap.size wd (wd.drew.alloc o) := fun o => below_of_drew (below1 wd.drew o)
                have HRW := Lib.hid (HR8.out.below HBD.out)
                have hp0 : wd.frozen? ⟨q, 1, none⟩ = false := H7.out.frozen 1
                have h7a : ∀ o, (wd.alloc o).cell? ⟨q, 1, none⟩ = some (.slice A7 k c7) := fun o => (H7.out.alloc o).cell 1
                have h7b : ∀ o o', ((wd.alloc o).alloc o').cell? ⟨q, 1, none⟩ = some (.slice A7 k c7) := fun o o' => ((H7.out.alloc o).alloc o').cell 1
                go_region_law (first
                  | (go_simp; go_at_call 112; refine (i_place _ _ _ _ _ _ T6n x (by exact HRW.out) (by exact HXI.out.ints) (by rw [T6n_len]; omega)).mono ?_; rintro e w5 ⟨rfl, hw5⟩; have hb5 : Below wd.heap.size wd w5 := (by rw [hw5]; exact hdr _); clear hw5; have HB5 := Lib.hid hb5; have k7 : w5.cell? ⟨q, 1, none⟩ = some (.slice A7 k c7) := (H7.out.below hb5 hp7l).cell 1; have k7a : ∀ o, (w5.alloc o).cell? ⟨q, 1, none⟩ = some (.slice A7 k c7) := fun o => ((H7.out.below hb5 hp7l).alloc o).cell 1)
                  | (refine step_app1 T_nat (B := wc.heap.size) (v := .slice A7 k c7) (vs := ints (up ((cr.take k).map (idxN T6n)))) (HS7.out.1.below hb5) (by rw [ints_len, up_len, List.length_map, List.length_take]; omega) (by have := hb5.size; omega) (by rfl) rfl (by rfl) (by rfl) (by rfl) ?_; intro v6 w6 hown6 hgr6; obtain ⟨A6, c6, hv6, -, -⟩ := hown6.cells.open_; rw [List.length_append, ints_len, up_len, List.length_map, List.length_take, Nat.min_eq_left hk, List.length_singleton] at hv6; subst hv6; have HN6 := Lib.hid hown6; have HG6 := Lib.hid hgr6; have HB7 := Lib.hid ((H7.out.below hb5 hp7l).keptG hgr6.1 ((HS7.out.1.below hb5).bt.neb (H7.out.below hb5 hp7l) (by decide))); have m7 : w6.cell? ⟨q, 1, none⟩ = some (.slice A7 k c7) := HB7.out.cell 1; have m7f : w6.frozen? ⟨q, 1, none⟩ = false := HB7.out.frozen 1; clear hown6 hgr6))
                all_goals
                  have hqq := HQL.out
                  have hwc8 := HB9.out.size
                  have HB8d := Lib.hid (HG6.out.below (HBD.out.trans (HB5.out.mono HBD.out.size)) (Nat.le_trans HBD.out.size HB5.out.size) (fun b hb => Nat.le_trans hwc8 (HS7.out.1.ge b hb)))
                  have HN8 := Lib.hid (HN6.out.kept (grown_set w6 q 1 (.slice A6 (k + 1) c6)) (.inr (HN6.out.bt.neb HB7.out (by decide))))
                  have HB9d := Lib.hid (HB8d.out.setCell (p := ⟨q, 1, none⟩) hqq (.slice A6 (k + 1) c6))
                  have H77 := Lib.hid (HB7.out.set_ 1 (.slice A6 (k + 1) c6))
                  have HWS := Lib.hid (show wc.heap.size ≤ w6.heap.size from Nat.le_trans hwd (Nat.le_trans HB5.out.size HG6.out.1.size))
                  clear hb5 k7 k7a m7 m7f hdr hp0 h7a h7b hp1 hf0 hf1
                  go_wp2_with fail
                  go_roundw
                  case rel =>
                    refine ⟨k + 1, _, by omega, by go_num, H77.out, ?_, HB9d.out, by simpa using HWS.out⟩
                    rw [HXK.out]
                    refine ⟨?_, fun z hz => ?_⟩
                    · have e : ints (up ((cr.take k).map (idxN T6n) ++ [idxN T6n x])) = ints (up ((cr.take k).map (idxN T6n))) ++ [.int .i64 ((idxN T6n x : Nat) : Int)] := by simp [ints, up]
                      rw [e]; exact HN8.out
                    · unfold up at hz
                      obtain ⟨y, hy, rfl⟩ := List.mem_map.1 hz
                      have : y ≤ 37 := by
                        rcases List.mem_append.1 hy with h | h
                        · obtain ⟨x', -, rfl⟩ := List.mem_map.1 h
                          have := idxN_le T6n x'
                          rwa [T6n_len] at this
                        · have := idxN_le T6n x
                          rw [T6n_len] at this
                          simp at h
                          rw [h]; exact this
                      unfold In64; omega
                  case measure => simp [intOf]; omega
              · have hkl : k = cr.length := by omega
                have HTK := Lib.hid (show cr.take k = cr from List.take_of_length_le (by omega))
                obtain ⟨Ao, co, rfl, -, -⟩ := HO3.out.open_
                have HBWD := Lib.hid (HB8.out.trans (HBD.out.mono HB8.out.size))
                have HBW2 := Lib.hid (fun o => show Below wm.heap.size wm (wd.alloc o) from HBWD.out.trans ((below1 wd o).mono HBWD.out.size))
                have HO3W := Lib.hid (fun o => HO3.out.below (HBW2.out o))
                have hw0 : wd.cell? ⟨q, 0, none⟩ = some (.int .i64 n) := H7.out.cell 0
                have hw1 : wd.cell? ⟨q, 1, none⟩ = some (.slice A7 k c7) := H7.out.cell 1
                have hw2 : wd.cell? ⟨q, 2, none⟩ = some (.int .i64 (ix : Nat)) := H7.out.cell 2
                have HMX := Lib.hid (show prtU ((cr, tr), n) = ((cr.map (idxN T6n), ix), n) from by rw [HIX.out]; rfl)
                clear hkl h7 hs7 hbd
                go_wp2_with (at_builtin; go_must (refine wpList_app1K T_mp (ad := ⟨wd.heap.size, 0, none⟩) (W := wd.alloc (.cells #[.int .i64 n, .slice A7 k c7, .int .i64 (ix : Nat)] tMp)) (c := [.int .i64 n, .slice A7 k c7, .int .i64 (ix : Nat)]) (HO3W.out _) (by omega) (Nat.le_trans HBC.out.size (HBW2.out _).size) rfl (by intro u hu; simp at hu; rcases hu with rfl | rfl | rfl <;> rfl) (fun j u hu => lit_cells wd tMp [.int .i64 n, .slice A7 k c7, .int .i64 (ix : Nat)] #[.int .i64 n, .slice A7 k c7, .int .i64 (ix : Nat)] rfl j u hu) (by rfl) rfl (by rfl) (by rfl) ?_; intro v5 w5 hown5 hgr5; have HN5 := Lib.hid hown5; have HG5 := Lib.hid hgr5; clear hown5 hgr5))
                go_roundw
                case rel =>
                  refine ⟨j + 1, _, by omega, by go_num, HN5.out, ?_, HG3.out.trans (Grow.pre (HBW2.out _) HG5.out)⟩
                  rw [HTJ.out, HMX.out]
                  have hs := HS7.out
                  rw [HTK.out] at hs
                  exact ((HM3.out.below (HBW2.out _)).snoc (x := ((cr.map (idxN T6n), ix), n)) ⟨_, rfl, (hs.below (below1 wd _)).mono (Nat.le_trans HBC.out.size (Nat.le_trans HB8.out.size HB9.out.size))⟩).kept HG5.out.1 (HO3W.out _).bt (by decide)
                case measure => simp [intOf]; omega
        · have hjl : j = css2.length := by omega
          have HTK := Lib.hid (show P.take j = P from List.take_of_length_le (by rw [hjl, HCL.out]; exact Nat.le_refl _))
          clear hjl ho3 hm3 hg3
          obtain ⟨Ao, co, rfl, -, -⟩ := HO3.out.open_
          have HYC := Lib.hid (HY.out.below HBC.out)
          go_wp2_with (at_builtin; go_loud (refine wpList_app1 T_mpl (W := wm) (u := .slice Ao css3.length co) HYC.out (by omega) (by have := HBQ.out.size; have := HBC.out.size; omega) (by cases Ao <;> rfl) rfl (by rfl) (by rfl) (by rfl) ?_; intro v6 w6 hown6 hgr6; have HN6 := Lib.hid hown6; have HG6 := Lib.hid hgr6; clear hown6 hgr6))
          go_roundw
          case rel =>
            have g6 := HG6.out.1
            have hml : MPL w6 w.heap.size (.slice Ao css3.length co) (prtI t) := by
              have hm3 := HM3.out
              rw [HTK.out, HPG.out] at hm3
              have h : MPL wm wq.heap.size (.slice Ao css3.length co) (prtI t) := ⟨css3, HO3.out, hm3⟩
              obtain ⟨css, k1, k2⟩ := h.kept g6 HYC.out.bt (by decide) (by decide)
              exact ⟨css, k1.mono HBQ.out.size, k2.mono HBQ.out.size⟩
            have hm0 := ((HM.out.below HBC.out).kept g6 HYC.out.bt (by decide) (by decide)).snoc hml
            rw [← HTS.out] at hm0
            exact ⟨i + 1, us ++ [.slice Ao css3.length co], by omega, by go_num, HN6.out, hm0, HG.out.trans (Grow.pre HBC.out HG6.out)⟩
          case measure => simp [intOf]; omega
    · have hil : i = 37 := by omega
      have HTK := Lib.hid (show T6n.take i = T6n from List.take_of_length_le (by rw [T6n_len]; omega))
      clear hil
      go_wp2_with fail
      go_ret
      have h := HM.out
      rw [HTK.out] at h
      exact ⟨_, rfl, ⟨us, HY.out, h⟩, HBQ.out⟩
end Go.Proofs.YtngdpoeondnchaaGreat

set_option linter.unusedVariables false
set_option linter.unusedSimpArgs false
namespace Go.Proofs.YtngdpoeondnchaaGreat
open Go.RowKit

end Go.Proofs.YtngdpoeondnchaaGreat

set_option maxRecDepth 100000
set_option linter.unusedVariables false
set_option linter.unusedSimpArgs false
namespace Go.Proofs.YtngdpoeondnchaaGreat
open Go.RowKit

theorem Frm.opens {w : World} {B : Nat} {v : Value} (h : Frm w B v) : ∃ A c Ay my cy, v = .agg #[.slice A 37 c, .slice Ay my cy] ∧ Rows w (.slice A 37 c) (T6n.map up) := by
  obtain ⟨x, y, us, rfl, h1, h2, -⟩ := h
  obtain ⟨A, c, he, -, -, -⟩ := h1.rows.open_
  rw [List.length_map, T6n_len] at he
  subst he
  obtain ⟨Ay, cy, rfl, -, -⟩ := h2.cells.open_
  exact ⟨A, c, Ay, _, cy, rfl, h1.rows⟩

end Go.Proofs.YtngdpoeondnchaaGreat

