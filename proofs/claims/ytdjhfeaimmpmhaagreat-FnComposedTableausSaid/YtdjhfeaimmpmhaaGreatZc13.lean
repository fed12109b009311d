/- Walk: splitTree of the program. -/
import Derived.Test.YtdjhfeaimmpmhaaGreatZc11
import Derived.Test.YtdjhfeaimmpmhaaGreatZc12
import Derived.Test.YtdjhfeaimmpmhaaGreatZc10
set_option maxRecDepth 100000
set_option linter.unusedVariables false
set_option linter.unusedSimpArgs false
namespace Go.Proofs.YtdjhfeaimmpmhaaGreat
open Go.RowKit

theorem RR.keptT {w w' : World} {B : Nat} {vs : List Value} {xss : List (List Int)} {v : Value} {e : TypeId} (h : RR w B vs xss) (hg : w.grownBy w' v.ownBlock) (hb : BT w e v) (hne : tI ≠ e) : RR w' B vs xss :=
  ⟨h.1, fun k u zs hu hz => (h.2 k u zs hu hz).kept hg ((h.2 k u zs hu hz).1.bt.ne hb hne)⟩
theorem Blk.keptG {w w' : World} {p : Nat} {t : TypeId} {cs : Array Value} {row : Option Nat} (h : Blk w p t cs) (hg : w.grownBy w' row) (hne : row ≠ some p) : Blk w' p t cs := (hg.block p h.lt (fun e => hne e.symm)).trans h
abbrev tR : TypeId := 43
def cz (s : SP) : SP × Nat := (s, 0)
theorem LL.app {w w' : World} {B : Nat} {vs1 vs2 : List Value} {xs ys : List (List Int)} {r : Value} {B' : Nat} (h1 : RR w B vs1 xs) (h2 : RR w B vs2 ys) (hb : Below w.heap.size w w') (ho : Own w' B' tL r (vs1 ++ vs2)) (hB : B ≤ B') : LL w' B r (xs ++ ys) := ⟨_, ho.mono hB, (h1.append h2).below hb⟩

theorem LL.appU {w : World} {B B' : Nat} {vs1 vs2 : List Value} {a b : List (List Nat)} {r : Value} (h1 : RR w B vs1 (a.map up)) (h2 : RR w B vs2 (b.map up)) (ho : Own w B' tL r (vs1 ++ vs2)) (hB : B ≤ B') : LL w B r ((a ++ b).map up) := by
  rw [List.map_append]; exact ⟨_, ho.mono hB, h1.append h2⟩
theorem LL.one {W : World} {B : Nat} {u : Value} {zs : List Int} (h : OwnInts W B tI u zs) (hB : B ≤ W.heap.size) : LL (W.alloc (.cells #[u] tL)) B (.slice (some ⟨W.heap.size, 0, none⟩) 1 1) [zs] :=
  ⟨[u], (own_lit W tL [u] (by simp [maxLen])).mono hB, by have := (RR.nil (W.alloc (.cells #[u] tL)) B).snoc (h.below (below1 W (.cells #[u] tL))); simpa using this⟩
set_option maxHeartbeats 32000000 in
theorem i_splitTree : ∀ (f : Nat) (w : World) (v : Value) (t : List Nat) (r : List SP), Ints w v (up t) → splV f t = some r →
    Calls Tryz.prog 177 #[v] w fun e w' => ∃ x, e = .returned x ∧ SLs eSc tSp w' w.heap.size x (r.map cz) ∧ Below w.heap.size w w' := by
  intro f
  induction f with
  | zero => intro w v t r _ h; cases h
  | succ f ih =>
    intro w v t r ha hr
    obtain ⟨hk, bs, l, l2, c, hbs, hlo, hokl, htr, hc, hokl2, hrr⟩ := splV_succ hr
    have hk2 := okT1_of hk
    have HA := Lib.hid ha
    have IH := Lib.hid ih
    obtain ⟨A, ca, rfl, -, -, -⟩ := ha.open_
    rw [up_len] at HA ⊢
    have HBR := Lib.hid (fun W h => i_branchesOf W (.slice A t.length ca) t bs h hbs (by omega) (fun l hl => by have := hk2.2 l hl; omega))
    have HCA := Lib.hid (fun W h => i_canonical 9 W (.slice A t.length ca) t c h hc (by omega) (fun l hl => by have := hk2.2 l hl; omega))
    have HCL1 := Lib.hid (show c.length ≤ 100 from by rw [canO_len hc]; exact hk2.1)
    have HLO := Lib.hid hlo
    have HOKL := Lib.hid (okLs_of hokl)
    have HTR := Lib.hid htr
    have HOK2 := Lib.hid (okLs_of hokl2)
    have HRR := Lib.hid hrr
    have OL := Lib.hid (show OwnK (w.alloc (.cells #[.slice none 0 0, .slice none 0 0, .int .i64 0] tSp)) w.heap.size tSp 3 (.slice (some ⟨w.heap.size, 0, none⟩) 1 1) [[.slice none 0 0, .slice none 0 0, .int .i64 0]] from OwnK.lit w tSp 3 [[.slice none 0 0, .slice none 0 0, .int .i64 0]] (fun c hc => by simp at hc; subst hc; rfl) (by simp [maxLen]) _ rfl)
    have OE := Lib.hid (show Elts eSc (w.alloc (.cells #[.slice none 0 0, .slice none 0 0, .int .i64 0] tSp)) w.heap.size [[.slice none 0 0, .slice none 0 0, .int .i64 0]] ([([], [])].map cz) from Elts.snoc (Elts.nil _ _ _) ⟨_, _, rfl, ⟨LL.nil _ _, Nat.zero_le _, Nat.zero_le _⟩, ⟨LL.nil _ _, Nat.zero_le _, Nat.zero_le _⟩⟩)
    clear ha ih hr hk hbs hlo hokl htr hc hokl2 hrr hk2
    go_enter Tryz.func177, Tryz.ntmps177
    go_wp2_with (go_at_call 193; go_loud (refine (HBR.out _ (HA.out.below (below1 w _))).mono ?_; rintro e w1 ⟨x1, rfl, hl1, hb1⟩; obtain ⟨A1, c1, he1, hbl1, hbl2, hr1⟩ := rowsAt hl1.rows; subst he1; have HR1 := Lib.hid hr1; have OL1 := Lib.hid (OL.out.below hb1); have OE1 := Lib.hid (OE.out.below hb1); have HB1 := Lib.hid ((below1 w _).trans (hb1.mono (below1 w _).size)); have HS1 := Lib.hid hl1; clear hl1 hb1 hr1))
    go_loopw [3, 18] (fun o x wr => ∃ (i : Nat) (acc : List SP) (css : List (List Value)), i ≤ bs.length ∧ x = .int .i64 i ∧ OwnK wr w.heap.size tSp 3 o css ∧ Elts eSc wr w.heap.size css (acc.map cz) ∧ Hid (loopV (splV f) (bs.drop i) acc = some l) ∧ Hid (okLs acc = true) ∧ Below w1.heap.size w1 wr) (fun _ x _ => bs.length - (intOf x).toNat)
    case atStart => exact ⟨0, [([], [])], _, Nat.zero_le _, rfl, OL1.out, OE1.out, HLO.out, (show okLs [([], [])] = true from by decide), Below.refl _ _⟩
    case round =>
      obtain ⟨i, acc, css, hi, rfl, ho, hce, HLV, HOA, hb⟩ := hrel
      have HO := Lib.hid ho
      have HCE := Lib.hid hce
      have HBX := Lib.hid hb
      have HB := Lib.hid (HB1.out.trans (hb.mono HB1.out.size))
      have hcl := hce.1
      rw [List.length_map] at hcl
      obtain ⟨Ao, co, rfl, -, -⟩ := ho.open_
      rw [hcl] at HO ⊢
      have HAL := Lib.hid (okLs_of HOA.out)
      clear ho hce hb hcl
      by_cases hlt : i < bs.length
      · obtain ⟨ad, b, A5, c5, rfl, hbq, hbi, hbc⟩ := HR1.out i hlt
        have hlv := HLV.out
        rw [show bs.drop i = b :: bs.drop (i + 1) from by obtain ⟨hk, rfl⟩ := List.getElem?_eq_some_iff.1 hbq; exact List.drop_eq_getElem_cons hk] at hlv
        obtain ⟨lb, hlb, hokb, hokp, hnx⟩ := loopV_cons hlv
        have hcb := keepCellG HBX.out hbc
        have HBI := Lib.hid hbi
        have HLB := Lib.hid hlb
        have HOKB := Lib.hid (okLs_of hokb)
        have HOKP := Lib.hid hokp
        have HNX := Lib.hid hnx
        have hii : (i : Int) < (bs.length : Int) := by omega
        have hal := HAL.out.1
        have hbl := HOKB.out.1
        clear hbq hbi hbc hlv hlb hokb hokp hnx
        go_wp2_with fail
        obtain ⟨wa, hwa⟩ : ∃ wa : World, wa = wr := ⟨_, rfl⟩
        rw [← hwa] at HO HCE HBX HB ⊢
        clear hwa hcb
        have ON := Lib.hid (show OwnK (wa.alloc (.cells #[] tSp)) wa.heap.size tSp 3 (.slice (some ⟨wa.heap.size, 0, none⟩) 0 0) [] from OwnK.lit wa tSp 3 [] (fun c hc => by simp at hc) (by simp [maxLen]) #[] rfl)
        have HWA := Lib.hid (show w.heap.size ≤ wa.heap.size from HB.out.size)
        go_loopw [6, 25] (fun nx x wr => ∃ (j : Nat) (css2 : List (List Value)), j ≤ acc.length ∧ x = .int .i64 j ∧ OwnK wr wa.heap.size tSp 3 nx css2 ∧ Elts eSc wr w.heap.size css2 ((prodS (acc.take j) lb).map cz) ∧ Below wa.heap.size wa wr) (fun _ x _ => acc.length - (intOf x).toNat)
        case atStart => exact ⟨0, [], Nat.zero_le _, rfl, ON.out, Elts.nil _ _ _, below1 _ _⟩
        case round =>
          obtain ⟨j, css2, hj, rfl, ho2, hce2, hb2⟩ := hrel
          clear ON
          by_cases hlt2 : j < acc.length
          · obtain ⟨y, hy⟩ : ∃ y, acc[j]? = some y := ⟨_, List.getElem?_eq_getElem hlt2⟩
            obtain ⟨cy, hcy, hD⟩ := HCE.out.at_ (x := cz y) (by rw [List.getElem?_map, hy]; rfl)
            obtain ⟨u, s, rfl, hu0, hs0⟩ := hD
            have hu1 : LL wa w.heap.size u (y.1.map up) ∧ y.1.length ≤ 1000000 ∧ ndN y.1 ≤ 1000000 := hu0
            have hs1 : LL wa w.heap.size s (y.2.map up) ∧ y.2.length ≤ 1000000 ∧ ndN y.2 ≤ 1000000 := hs0
            obtain ⟨vsu, hvu, hru⟩ := hu1.1
            obtain ⟨vss, hvs, hrs⟩ := hs1.1
            have hlu : vsu.length = y.1.length := by rw [hru.1, List.length_map]
            have hls : vss.length = y.2.length := by rw [hrs.1, List.length_map]
            obtain ⟨Au, cu, rfl, -, -⟩ := hvu.cells.open_
            obtain ⟨As, cs, rfl, -, -⟩ := hvs.cells.open_
            obtain ⟨go, cg, heo, hg0⟩ := HO.out.cell (j := 0) hcy rfl
            simp only [Value.slice.injEq] at heo
            obtain ⟨rfl, -, rfl⟩ := heo
            have hq0 : wa.cell? ⟨go, j * 3, none⟩ = some (.slice Au vsu.length cu) := hg0
            have hq1 : wa.cell? ⟨go, j * 3 + 1, none⟩ = some (.slice As vss.length cs) := by obtain ⟨g', c', he', h'⟩ := HO.out.cell (j := 1) hcy rfl; simp only [Value.slice.injEq, Option.some.injEq, Addr.mk.injEq, and_true, true_and] at he'; rw [he'.1]; exact h'
            have hq2 : wa.cell? ⟨go, j * 3 + 2, none⟩ = some (.int .i64 0) := by obtain ⟨g', c', he', h'⟩ := HO.out.cell (j := 2) hcy rfl; simp only [Value.slice.injEq, Option.some.injEq, Addr.mk.injEq, and_true, true_and] at he'; rw [he'.1]; exact h'
            have hr0 := keepCellG hb2 hq0
            have hr1 := keepCellG hb2 hq1
            have hr2 := keepCellG hb2 hq2
            have HVU := Lib.hid hvu
            have HRU := Lib.hid hru
            have HVS := Lib.hid hvs
            have HRS := Lib.hid hrs
            have HLU := Lib.hid hlu
            have HLS := Lib.hid hls
            have HYS := Lib.hid (HAL.out.2 y (List.mem_of_getElem? hy)).1
            have HPS := Lib.hid (prodS_succ (xs := acc) (ys := lb) hy)
            have HOKT := Lib.hid (show (prodS (acc.take (j + 1)) lb).length ≤ 300000 from by
              have h1 : ∀ (xs : List SP), (prodS xs lb).length = xs.length * lb.length := fun xs => by
                induction xs with
                | nil => simp [prodS]
                | cons x xs ihx => simp only [prodS, List.flatMap_cons, List.length_append, List.length_map, List.length_cons] at ihx ⊢; rw [ihx, Nat.add_mul]; omega
              rw [h1]
              exact Nat.le_trans (Nat.mul_le_mul (show (acc.take (j + 1)).length ≤ 500 from by rw [List.length_take]; omega) hbl) (by decide))
            have HO2 := Lib.hid ho2
            have HCE2 := Lib.hid hce2
            have HB2 := Lib.hid hb2
            have hjj : (j : Int) < (acc.length : Int) := by omega
            clear hu0 hs0 hu1 hs1 hvu hru hvs hrs hlu hls hg0 hq0 hq1 hq2 hcy hy ho2 hce2 hb2
            go_upto_region 9 with fail
            obtain ⟨wq, hwq⟩ : ∃ wq : World, wq = wr.alloc (.cells #[.slice Au vsu.length cu, .slice As vss.length cs, .int .i64 0] tSp) := ⟨_, rfl⟩
            have HBK := Lib.hid (show Blk wq wr.heap.size tSp #[.slice Au vsu.length cu, .slice As vss.length cs, .int .i64 0] from by rw [hwq]; exact Blk.new wr _ _)
            have HBQ := Lib.hid (show Below wr.heap.size wr wq from by rw [hwq]; exact below1 _ _)
            obtain ⟨pq, hpq⟩ : ∃ pq : Nat, pq = wr.heap.size := ⟨_, rfl⟩
            rw [← hpq] at HBK
            first | rw [← hwq] | skip
            first | rw [← hpq] | skip
            have HPQ := Lib.hid hpq
            clear hwq hpq hr0 hr1 hr2
            have hb1q : Below w1.heap.size w1 wq := (HBX.out.trans (HB2.out.mono HBX.out.size)).trans (HBQ.out.mono (Nat.le_trans HBX.out.size HB2.out.size))
            have HIQ := Lib.hid (HBI.out.below hb1q)
            have HAQ := Lib.hid (HB2.out.trans (HBQ.out.mono HB2.out.size))
            clear hb1q
            go_wp2_with (go_at_call 177; go_loud (refine (IH.out _ _ b lb HIQ.out HLB.out).mono ?_; rintro e w5 ⟨x5, rfl, hx5, hb5⟩; obtain ⟨cssb, hob, heb⟩ := hx5; have hlbl := heb.1; rw [List.length_map] at hlbl; obtain ⟨A7, c7, rfl, -, -⟩ := hob.open_; rw [hlbl] at hob ⊢; have HOB := Lib.hid hob; have HEB := Lib.hid heb; have HB5 := Lib.hid hb5; clear hob heb hb5 hlbl))
            have HA5 := Lib.hid (HAQ.out.trans (HB5.out.mono HAQ.out.size))
            have HR5 := Lib.hid (HBQ.out.trans (HB5.out.mono HBQ.out.size))
            have HBK5 := Lib.hid (HBK.out.below HB5.out HBK.out.lt)
            have HO5 := Lib.hid (HO2.out.below HR5.out)
            have HCE5 := Lib.hid (HCE2.out.below HR5.out)
            have HVU5 := Lib.hid (HVU.out.below HA5.out)
            have HRU5 := Lib.hid (HRU.out.below HA5.out)
            have HVS5 := Lib.hid (HVS.out.below HA5.out)
            have HRS5 := Lib.hid (HRS.out.below HA5.out)
            have HNE := Lib.hid (show ∀ g, wr.heap.size ≤ g → u6.ownBlock ≠ some g from fun g hg e => by have := HO2.out.lt g e; omega)
            obtain ⟨nx0, hnx0⟩ : ∃ nx0 : Value, nx0 = u6 := ⟨_, rfl⟩
            rw [← hnx0] at HO5 HNE
            go_loopw [6, 32] (fun nx x wz => ∃ (m : Nat) (css3 : List (List Value)), m ≤ lb.length ∧ x = .int .i64 m ∧ OwnK wz wa.heap.size tSp 3 nx css3 ∧ Elts eSc wz w.heap.size css3 ((prodS (acc.take j) lb ++ (lb.take m).map (combS y)).map cz) ∧ Grow w5 wz nx0 nx) (fun _ x _ => lb.length - (intOf x).toNat)
            case atStart => exact ⟨0, css2, Nat.zero_le _, rfl, by rw [← hnx0]; exact HO5.out, by simpa using HCE5.out, by rw [← hnx0]; exact Grow.refl _ _⟩
            case round =>
              obtain ⟨m, css3, hm, rfl, ho3, hce3, hg3⟩ := hrel
              have HO3 := Lib.hid ho3
              have HCE3 := Lib.hid hce3
              have HG3 := Lib.hid hg3
              have HAZ := Lib.hid (hg3.below HA5.out HA5.out.size HO5.out.ge)
              have hcl3 : css3.length ≤ 300000 := by
                have h1 := hce3.1
                have h2 := HOKT.out
                rw [HPS.out] at h2
                rw [List.length_map, List.length_append, List.length_map, List.length_take] at h1
                rw [List.length_append, List.length_map] at h2
                omega
              clear ho3 hce3 hg3
              by_cases hlt3 : m < lb.length
              · obtain ⟨z, hz⟩ : ∃ z, lb[m]? = some z := ⟨_, List.getElem?_eq_getElem hlt3⟩
                have hg := HG3.out.1
                have hobz : OwnK wr wq.heap.size tSp 3 (.slice A7 lb.length c7) cssb := HOB.out.kept hg (by
                  cases hb : (Value.slice A7 lb.length c7).ownBlock with
                  | none => exact .inl rfl
                  | some g => exact .inr fun e => HNE.out g (by have h1 := HOB.out.ge g hb; have h2 := HBQ.out.size; omega) e.symm)
                have hebz := HEB.out.kept hg HO5.out.bt (by decide) (by decide)
                have HBKZ := Lib.hid (HBK5.out.keptG hg (HNE.out pq (by rw [HPQ.out]; exact Nat.le_refl _)))
                have hvu := HVU5.out.kept hg (HVU5.out.bt.ne HO5.out.bt (by decide))
                have hru := HRU5.out.keptT hg HO5.out.bt (by decide)
                have hvs := HVS5.out.kept hg (HVS5.out.bt.ne HO5.out.bt (by decide))
                have hrs := HRS5.out.keptT hg HO5.out.bt (by decide)
                obtain ⟨cz0, hcz, hDz⟩ := hebz.at_ (x := cz z) (by rw [List.getElem?_map, hz]; rfl)
                obtain ⟨uz, sz, rfl, huz, hsz⟩ := hDz
                have huz1 : LL wr wq.heap.size uz (z.1.map up) ∧ z.1.length ≤ 1000000 ∧ ndN z.1 ≤ 1000000 := huz
                have hsz1 : LL wr wq.heap.size sz (z.2.map up) ∧ z.2.length ≤ 1000000 ∧ ndN z.2 ≤ 1000000 := hsz
                obtain ⟨vsz, hvz, hrz⟩ := huz1.1
                obtain ⟨vst, hvt, hrt⟩ := hsz1.1
                have hlz : vsz.length = z.1.length := by rw [hrz.1, List.length_map]
                have hlt' : vst.length = z.2.length := by rw [hrt.1, List.length_map]
                obtain ⟨Az, cz1, rfl, -, -⟩ := hvz.cells.open_
                obtain ⟨Bz, ct1, rfl, -, -⟩ := hvt.cells.open_
                obtain ⟨gb, cgb, heb, hg0⟩ := hobz.cell (j := 0) hcz rfl
                simp only [Value.slice.injEq] at heb
                obtain ⟨rfl, -, rfl⟩ := heb
                have hk0 : wr.cell? ⟨gb, m * 3, none⟩ = some (.slice Az vsz.length cz1) := hg0
                have hk1 : wr.cell? ⟨gb, m * 3 + 1, none⟩ = some (.slice Bz vst.length ct1) := by obtain ⟨g', c', he', h'⟩ := hobz.cell (j := 1) hcz rfl; simp only [Value.slice.injEq, Option.some.injEq, Addr.mk.injEq, and_true, true_and] at he'; rw [he'.1]; exact h'
                have hk2 : wr.cell? ⟨gb, m * 3 + 2, none⟩ = some (.int .i64 0) := by obtain ⟨g', c', he', h'⟩ := hobz.cell (j := 2) hcz rfl; simp only [Value.slice.injEq, Option.some.injEq, Addr.mk.injEq, and_true, true_and] at he'; rw [he'.1]; exact h'
                have HSZ := Lib.hid (HOKB.out.2 z (List.mem_of_getElem? hz)).1
                have HLEN := Lib.hid (show vsu.length + vsz.length ≤ 100000 ∧ vss.length + vst.length ≤ 100000 from by
                  have h1 := HLU.out; have h2 := HLS.out
                  have h3 := HYS.out.1.1; have h4 := HYS.out.2.1
                  have h5 := HSZ.out.1.1; have h6 := HSZ.out.2.1
                  omega)
                obtain ⟨wz3, hwz3⟩ : ∃ wz3 : World, wz3 = wr.alloc (.cells #[.slice Az vsz.length cz1, .slice Bz vst.length ct1, .int .i64 0] tSp) := ⟨_, rfl⟩
                have HBZ3 := Lib.hid (show Below wr.heap.size wr wz3 from by rw [hwz3]; exact below1 _ _)
                have HBP := Lib.hid (show Blk wz3 wr.heap.size tSp #[.slice Az vsz.length cz1, .slice Bz vst.length ct1, .int .i64 0] from by rw [hwz3]; exact Blk.new wr _ _)
                have HBQ3 := Lib.hid (HBKZ.out.below HBZ3.out HBKZ.out.lt)
                have HVUZ := Lib.hid (hvu.below HBZ3.out)
                have HRUZ := Lib.hid (hru.below HBZ3.out)
                have HVSZ := Lib.hid (hvs.below HBZ3.out)
                have HRSZ := Lib.hid (hrs.below HBZ3.out)
                have HVZ := Lib.hid (hvz.below HBZ3.out)
                have HRZ := Lib.hid (hrz.below HBZ3.out)
                have HVT := Lib.hid (hvt.below HBZ3.out)
                have HRT := Lib.hid (hrt.below HBZ3.out)
                have HON := Lib.hid (HO3.out.below HBZ3.out)
                have HEN := Lib.hid (HCE3.out.below HBZ3.out)
                have HAQ3 := Lib.hid (HAZ.out.trans (HBZ3.out.mono HAZ.out.size))
                have HNZ := Lib.hid (show wa.heap.size ≤ wz3.heap.size from HAQ3.out.size)
                have HTSM := Lib.hid (show prodS (acc.take j) lb ++ (lb.take (m + 1)).map (combS y) = (prodS (acc.take j) lb ++ (lb.take m).map (combS y)) ++ [combS y z] from by rw [List.take_add_one, hz, List.map_append, List.append_assoc]; rfl)
                have HBW := Lib.hid (show w.heap.size ≤ wq.heap.size from Nat.le_trans HWA.out (Nat.le_trans HB2.out.size HBQ.out.size))
                have HWZ := Lib.hid (show w.heap.size ≤ wz3.heap.size from Nat.le_trans HWA.out HNZ.out)
                have HND := Lib.hid (show ((y.1 ++ z.1).length ≤ 1000000 ∧ ndN (y.1 ++ z.1) ≤ 1000000) ∧ ((y.2 ++ z.2).length ≤ 1000000 ∧ ndN (y.2 ++ z.2) ≤ 1000000) from by
                  have ha : ∀ a b : List (List Nat), ndN (a ++ b) = ndN a + ndN b := fun a b => by
                    induction a with
                    | nil => simp [ndN]
                    | cons x xs ihx => simp only [List.cons_append, ndN, ihx]; omega
                  have h1 := HYS.out.1; have h2 := HYS.out.2; have h3 := HSZ.out.1; have h4 := HSZ.out.2
                  have n1 := ndN_le h1.2; have n2 := ndN_le h2.2; have n3 := ndN_le h3.2; have n4 := ndN_le h4.2
                  have m1 := h1.1; have m2 := h2.1; have m3 := h3.1; have m4 := h4.1
                  simp only [List.length_append, ha]
                  omega)
                obtain ⟨pz, hpz⟩ : ∃ pz : Nat, pz = wr.heap.size := ⟨_, rfl⟩
                rw [← hpz] at HBP
                have hmm : (m : Int) < (lb.length : Int) := by omega
                have HNQ := Lib.hid (show u6.ownBlock ≠ some pq ∧ u6.ownBlock ≠ some pz from by
                  refine ⟨fun e => ?_, fun e => ?_⟩
                  · rcases HG3.out.2 with h | ⟨g, h, h2⟩
                    · exact HNE.out pq (by rw [HPQ.out]; exact Nat.le_refl _) (h.symm.trans e)
                    · rw [e] at h; injection h with h; subst h; have := HBK5.out.lt; omega
                  · have := HO3.out.lt pz e; omega)
                have HSF := Lib.hid (fun (b : Bool) (W : World) (h : Below wz3.heap.size wz3 W) => show Blk W pq tSp #[.slice Au vsu.length cu, .slice As vss.length cs, .int .i64 0] ∧ Blk W pz tSp #[.slice Az vsz.length cz1, .slice Bz vst.length ct1, .int .i64 0] from ⟨HBQ3.out.below h HBQ3.out.lt, HBP.out.below h HBP.out.lt⟩)
                clear hg hobz hebz hvu hru hvs hrs huz hsz huz1 hsz1 hvz hrz hvt hrt hlz hlt' hg0 hcz hz
                go_upto_region 12 with fail
                first | rw [← hwz3] | skip
                first | rw [← hpz] | skip
                clear hk0 hk1 hk2 hwz3 hpz hnx0
                have hq0 : wz3.cell? ⟨pq, 0, none⟩ = some (.slice Au vsu.length cu) := HBQ3.out.cell 0
                have hq1 : wz3.cell? ⟨pq, 1, none⟩ = some (.slice As vss.length cs) := HBQ3.out.cell 1
                have hz0 : wz3.cell? ⟨pz, 0, none⟩ = some (.slice Az vsz.length cz1) := HBP.out.cell 0
                have hz1 : wz3.cell? ⟨pz, 1, none⟩ = some (.slice Bz vst.length ct1) := HBP.out.cell 1
                refine AnyT.begin (k := 16) (S := (fun (b : Bool) (w' : World) => Blk w' pq tSp #[.slice Au vsu.length cu, .slice As vss.length cs, .int .i64 0] ∧ Blk w' pz tSp #[.slice Az vsz.length cz1, .slice Bz vst.length ct1, .int .i64 0])) (by kernel_rfl) ?_
                have hS : (fun (b : Bool) (w' : World) => Blk w' pq tSp #[.slice Au vsu.length cu, .slice As vss.length cs, .int .i64 0] ∧ Blk w' pz tSp #[.slice Az vsz.length cz1, .slice Bz vst.length ct1, .int .i64 0]) false wz3.drew := HSF.out false _ (Below.refl wz3.heap.size wz3).drew
                have HC0 := Lib.hid (show Below wz3.heap.size wz3 wz3.drew from (Below.refl wz3.heap.size wz3).drew)
                refine AnyT.take0 (i := 0) (v := ?_) rfl (by kernel_rfl) (by kernel_rfl) (by kernel_rfl) (by decide) (fun _ _ _ h => h) hS (Or.inl ⟨by first | kernel_rfl | rfl, ?_⟩) ?_
                rotate_left
                · rintro w' ⟨b, hw'⟩; have hw1 : w'.cell? ⟨pq, 0, none⟩ = some (.slice Au vsu.length cu) := hw'.1.cell 0; have hw2 : w'.cell? ⟨pq, 1, none⟩ = some (.slice As vss.length cs) := hw'.1.cell 1; have hw3 : w'.cell? ⟨pz, 0, none⟩ = some (.slice Az vsz.length cz1) := hw'.2.cell 0; have hw4 : w'.cell? ⟨pz, 1, none⟩ = some (.slice Bz vst.length ct1) := hw'.2.cell 1; clear hw'; go_simp; try with_reducible rfl
                try simp only [Act.put, List.setIfInBounds_toArray, List.set_cons_zero, List.set_cons_succ]
                refine AnyT.take0 (i := 1) (v := ?_) rfl (by kernel_rfl) (by kernel_rfl) (by kernel_rfl) (by decide) (fun _ _ _ h => h) hS (Or.inl ⟨by first | kernel_rfl | rfl, ?_⟩) ?_
                rotate_left
                · rintro w' ⟨b, hw'⟩; have hw1 : w'.cell? ⟨pq, 0, none⟩ = some (.slice Au vsu.length cu) := hw'.1.cell 0; have hw2 : w'.cell? ⟨pq, 1, none⟩ = some (.slice As vss.length cs) := hw'.1.cell 1; have hw3 : w'.cell? ⟨pz, 0, none⟩ = some (.slice Az vsz.length cz1) := hw'.2.cell 0; have hw4 : w'.cell? ⟨pz, 1, none⟩ = some (.slice Bz vst.length ct1) := hw'.2.cell 1; clear hw'; go_simp; try with_reducible rfl
                try simp only [Act.put, List.setIfInBounds_toArray, List.set_cons_zero, List.set_cons_succ]
                refine AnyT.take0 (i := 2) (v := ?_) rfl (by kernel_rfl) (by kernel_rfl) (by kernel_rfl) (by decide) (fun _ _ _ h => h) hS (Or.inl ⟨by first | kernel_rfl | rfl, ?_⟩) ?_
                rotate_left
                · rintro w' ⟨b, hw'⟩; have hw1 : w'.cell? ⟨pq, 0, none⟩ = some (.slice Au vsu.length cu) := hw'.1.cell 0; have hw2 : w'.cell? ⟨pq, 1, none⟩ = some (.slice As vss.length cs) := hw'.1.cell 1; have hw3 : w'.cell? ⟨pz, 0, none⟩ = some (.slice Az vsz.length cz1) := hw'.2.cell 0; have hw4 : w'.cell? ⟨pz, 1, none⟩ = some (.slice Bz vst.length ct1) := hw'.2.cell 1; clear hw'; go_simp; try with_reducible rfl
                try simp only [Act.put, List.setIfInBounds_toArray, List.set_cons_zero, List.set_cons_succ]
                refine AnyT.take0 (i := 3) (v := ?_) rfl (by kernel_rfl) (by kernel_rfl) (by kernel_rfl) (by decide) (fun _ _ _ h => h) hS (Or.inl ⟨by first | kernel_rfl | rfl, ?_⟩) ?_
                rotate_left
                · rintro w' ⟨b, hw'⟩; have hw1 : w'.cell? ⟨pq, 0, none⟩ = some (.slice Au vsu.length cu) := hw'.1.cell 0; have hw2 : w'.cell? ⟨pq, 1, none⟩ = some (.slice As vss.length cs) := hw'.1.cell 1; have hw3 : w'.cell? ⟨pz, 0, none⟩ = some (.slice Az vsz.length cz1) := hw'.2.cell 0; have hw4 : w'.cell? ⟨pz, 1, none⟩ = some (.slice Bz vst.length ct1) := hw'.2.cell 1; clear hw'; go_simp; try with_reducible rfl
                try simp only [Act.put, List.setIfInBounds_toArray, List.set_cons_zero, List.set_cons_succ]
                refine AnyT.take0 (i := 4) (v := ?_) rfl (by kernel_rfl) (by kernel_rfl) (by kernel_rfl) (by decide) (fun _ _ _ h => h) hS (Or.inl ⟨by first | kernel_rfl | rfl, ?_⟩) ?_
                rotate_left
                · rintro w' ⟨b, hw'⟩; have hw1 : w'.cell? ⟨pq, 0, none⟩ = some (.slice Au vsu.length cu) := hw'.1.cell 0; have hw2 : w'.cell? ⟨pq, 1, none⟩ = some (.slice As vss.length cs) := hw'.1.cell 1; have hw3 : w'.cell? ⟨pz, 0, none⟩ = some (.slice Az vsz.length cz1) := hw'.2.cell 0; have hw4 : w'.cell? ⟨pz, 1, none⟩ = some (.slice Bz vst.length ct1) := hw'.2.cell 1; clear hw'; go_simp; try with_reducible rfl
                try simp only [Act.put, List.setIfInBounds_toArray, List.set_cons_zero, List.set_cons_succ]
                refine AnyT.take0 (i := 7) (v := ?_) rfl (by kernel_rfl) (by kernel_rfl) (by kernel_rfl) (by decide) (fun _ _ _ h => h) hS (Or.inl ⟨by first | kernel_rfl | rfl, ?_⟩) ?_
                rotate_left
                · rintro w' ⟨b, hw'⟩; have hw1 : w'.cell? ⟨pq, 0, none⟩ = some (.slice Au vsu.length cu) := hw'.1.cell 0; have hw2 : w'.cell? ⟨pq, 1, none⟩ = some (.slice As vss.length cs) := hw'.1.cell 1; have hw3 : w'.cell? ⟨pz, 0, none⟩ = some (.slice Az vsz.length cz1) := hw'.2.cell 0; have hw4 : w'.cell? ⟨pz, 1, none⟩ = some (.slice Bz vst.length ct1) := hw'.2.cell 1; clear hw'; go_simp; try with_reducible rfl
                try simp only [Act.put, List.setIfInBounds_toArray, List.set_cons_zero, List.set_cons_succ]
                refine AnyT.take0 (i := 8) (v := ?_) rfl (by kernel_rfl) (by kernel_rfl) (by kernel_rfl) (by decide) (fun _ _ _ h => h) hS (Or.inl ⟨by first | kernel_rfl | rfl, ?_⟩) ?_
                rotate_left
                · rintro w' ⟨b, hw'⟩; have hw1 : w'.cell? ⟨pq, 0, none⟩ = some (.slice Au vsu.length cu) := hw'.1.cell 0; have hw2 : w'.cell? ⟨pq, 1, none⟩ = some (.slice As vss.length cs) := hw'.1.cell 1; have hw3 : w'.cell? ⟨pz, 0, none⟩ = some (.slice Az vsz.length cz1) := hw'.2.cell 0; have hw4 : w'.cell? ⟨pz, 1, none⟩ = some (.slice Bz vst.length ct1) := hw'.2.cell 1; clear hw'; go_simp; try with_reducible rfl
                try simp only [Act.put, List.setIfInBounds_toArray, List.set_cons_zero, List.set_cons_succ]
                refine AnyT.take0 (i := 9) (v := ?_) rfl (by kernel_rfl) (by kernel_rfl) (by kernel_rfl) (by decide) (fun _ _ _ h => h) hS (Or.inl ⟨by first | kernel_rfl | rfl, ?_⟩) ?_
                rotate_left
                · rintro w' ⟨b, hw'⟩; have hw1 : w'.cell? ⟨pq, 0, none⟩ = some (.slice Au vsu.length cu) := hw'.1.cell 0; have hw2 : w'.cell? ⟨pq, 1, none⟩ = some (.slice As vss.length cs) := hw'.1.cell 1; have hw3 : w'.cell? ⟨pz, 0, none⟩ = some (.slice Az vsz.length cz1) := hw'.2.cell 0; have hw4 : w'.cell? ⟨pz, 1, none⟩ = some (.slice Bz vst.length ct1) := hw'.2.cell 1; clear hw'; go_simp; try with_reducible rfl
                try simp only [Act.put, List.setIfInBounds_toArray, List.set_cons_zero, List.set_cons_succ]
                refine AnyT.take0 (i := 10) (v := ?_) rfl (by kernel_rfl) (by kernel_rfl) (by kernel_rfl) (by decide) (fun _ _ _ h => h) hS (Or.inl ⟨by first | kernel_rfl | rfl, ?_⟩) ?_
                rotate_left
                · rintro w' ⟨b, hw'⟩; have hw1 : w'.cell? ⟨pq, 0, none⟩ = some (.slice Au vsu.length cu) := hw'.1.cell 0; have hw2 : w'.cell? ⟨pq, 1, none⟩ = some (.slice As vss.length cs) := hw'.1.cell 1; have hw3 : w'.cell? ⟨pz, 0, none⟩ = some (.slice Az vsz.length cz1) := hw'.2.cell 0; have hw4 : w'.cell? ⟨pz, 1, none⟩ = some (.slice Bz vst.length ct1) := hw'.2.cell 1; clear hw'; go_simp; try with_reducible rfl
                try simp only [Act.put, List.setIfInBounds_toArray, List.set_cons_zero, List.set_cons_succ]
                clear hq0 hq1 hz0 hz1
                refine AnyT.go (rs := [5, 11]) (by kernel_rfl) (by simp) ?_
                refine AllT.cons rfl (fun K hK => ?_) (AllT.cons rfl (fun K hK => ?_) AllT.nil)
                · go_simp
                  have hb1 : Below wz3.drew.heap.size wz3.drew (wz3.drew.alloc (.cells #[.slice Au vsu.length cu, .slice Az vsz.length cz1] tR)) := below1 _ _
                  have HC1 := Lib.hid (Below.trans HC0.out (hb1.mono HC0.out.size))
                  have HX1_5 := Lib.hid (show Blk (wz3.drew.alloc (.cells #[.slice Au vsu.length cu, .slice Az vsz.length cz1] tR)) wz3.drew.heap.size tR _ from Blk.new wz3.drew _ _)
                  clear hb1
                  refine hK.out _ _ (HSF.out false _ HC1.out) (fun hS => ?_)
                  clear hK
                  try simp only [Act.put, List.setIfInBounds_toArray, List.set_cons_zero, List.set_cons_succ]
                  refine AnyT.go (rs := [6, 11]) (by kernel_rfl) (by simp) ?_
                  refine AllT.cons rfl (fun K hK => ?_) (AllT.cons rfl (fun K hK => ?_) AllT.nil)
                  · go_simp
                    refine (lib_ConcatF _ (wz3.heap.size) 2 Au Az cu cz1 vsu vsz (by omega) (by omega) (HX1_5.out.cell 0) (HX1_5.out.cell 1) (HVUZ.out.cells.below HC1.out) (HVZ.out.cells.below HC1.out) HRUZ.out.oneCell HRZ.out.oneCell HLEN.out.1).mono ?_
                    rintro e2 y2 ⟨r2, rfl, ho2, hb2⟩
                    obtain ⟨A2a, c2a, he2, -, -⟩ := ho2.cells.open_
                    obtain ⟨n2a, hn2⟩ : ∃ n, n = (vsu ++ vsz).length := ⟨_, rfl⟩
                    rw [← hn2] at he2
                    subst he2
                    clear hn2
                    have HC2 := Lib.hid (Below.trans HC1.out (hb2.mono HC1.out.size))
                    have HR2_6 := Lib.hid (ho2.mono HC1.out.size)
                    clear ho2 hb2
                    refine hK.out _ _ (HSF.out false _ HC2.out) (fun hS => ?_)
                    clear hK
                    try simp only [Act.put, List.setIfInBounds_toArray, List.set_cons_zero, List.set_cons_succ]
                    refine AnyT.go (rs := [11]) (by kernel_rfl) (by simp) ?_
                    refine AllT.cons rfl (fun K hK => ?_) AllT.nil
                    go_simp
                    have hb3 : Below y2.heap.size y2 (y2.alloc (.cells #[.slice As vss.length cs, .slice Bz vst.length ct1] tR)) := below1 _ _
                    have HC3 := Lib.hid (Below.trans HC2.out (hb3.mono HC2.out.size))
                    have HX3_11 := Lib.hid (show Blk (y2.alloc (.cells #[.slice As vss.length cs, .slice Bz vst.length ct1] tR)) y2.heap.size tR _ from Blk.new y2 _ _)
                    have HR3_6 := Lib.hid (HR2_6.out.below hb3)
                    clear hb3
                    refine hK.out _ _ (HSF.out false _ HC3.out) (fun hS => ?_)
                    clear hK
                    try simp only [Act.put, List.setIfInBounds_toArray, List.set_cons_zero, List.set_cons_succ]
                    refine AnyT.go (rs := [12]) (by kernel_rfl) (by simp) ?_
                    refine AllT.cons rfl (fun K hK => ?_) AllT.nil
                    go_simp
                    refine (lib_ConcatF _ (y2.heap.size) 2 As Bz cs ct1 vss vst (by omega) (by omega) (HX3_11.out.cell 0) (HX3_11.out.cell 1) (HVSZ.out.cells.below HC3.out) (HVT.out.cells.below HC3.out) HRSZ.out.oneCell HRT.out.oneCell HLEN.out.2).mono ?_
                    rintro e4 y4 ⟨r4, rfl, ho4, hb4⟩
                    obtain ⟨A4a, c4a, he4, -, -⟩ := ho4.cells.open_
                    obtain ⟨n4a, hn4⟩ : ∃ n, n = (vss ++ vst).length := ⟨_, rfl⟩
                    rw [← hn4] at he4
                    subst he4
                    clear hn4
                    have HC4 := Lib.hid (Below.trans HC3.out (hb4.mono HC3.out.size))
                    have HR4_6 := Lib.hid (HR3_6.out.below hb4)
                    have HR4_12 := Lib.hid (ho4.mono HC3.out.size)
                    clear ho4 hb4
                    refine hK.out _ _ (HSF.out false _ HC4.out) (fun hS => ?_)
                    clear hK
                    try simp only [Act.put, List.setIfInBounds_toArray, List.set_cons_zero, List.set_cons_succ]
                    refine AnyT.go (rs := [13]) (by kernel_rfl) (by simp) ?_
                    refine AllT.cons rfl (fun K hK => ?_) AllT.nil
                    go_simp
                    refine hK.out _ _ (HSF.out false _ HC4.out) (fun hS => ?_)
                    clear hK
                    try simp only [Act.put, List.setIfInBounds_toArray, List.set_cons_zero, List.set_cons_succ]
                    refine AnyT.go (rs := [14]) (by kernel_rfl) (by simp) ?_
                    refine AllT.cons rfl (fun K hK => ?_) AllT.nil
                    go_simp
                    have hbt : Below y4.heap.size y4 (y4.alloc (.cells #[.slice A2a n2a c2a, .slice A4a n4a c4a, .int .i64 0] tSp)) := below1 _ _
                    have HCT := Lib.hid (Below.trans HC4.out (hbt.mono HC4.out.size))
                    have HF5 := Lib.hid (HR4_6.out.below hbt)
                    have HF6 := Lib.hid (HR4_12.out.below hbt)
                    clear hbt
                    refine hK.out _ _ (HSF.out false _ HCT.out) (fun hS => ?_)
                    clear hK
                    try simp only [Act.put, List.setIfInBounds_toArray, List.set_cons_zero, List.set_cons_succ]
                    refine AnyT.go (rs := [15]) (by kernel_rfl) (by simp) ?_
                    refine AllT.cons rfl (fun K hK => ?_) AllT.nil
                    refine step_app1K T_split (W := y4.alloc (.cells #[.slice A2a n2a c2a, .slice A4a n4a c4a, .int .i64 0] tSp)) (c := [.slice A2a n2a c2a, .slice A4a n4a c4a, .int .i64 ((0 : Nat) : Int)]) (HON.out.below HCT.out) (by omega) (Nat.le_trans HNZ.out HCT.out.size) rfl (by intro u hu; simp at hu; rcases hu with rfl | rfl | rfl <;> rfl) (lit_cells _ _ _ _ rfl) (by rfl) rfl (by rfl) (by rfl) ?_
                    intro v9 w9 hown9 hgr9
                    have HN9 := Lib.hid hown9
                    have HG9 := Lib.hid hgr9
                    clear hown9 hgr9
                    have HAZ9 := Lib.hid (HG9.out.below (HAQ3.out.trans (HCT.out.mono HAQ3.out.size)) (Nat.le_trans HAQ3.out.size HCT.out.size) HON.out.ge)
                    have HE9 := Lib.hid ((((HEN.out.below HCT.out).snoc (x := cz (combS y z)) (c := [.slice A2a n2a c2a, .slice A4a n4a c4a, .int .i64 ((0 : Nat) : Int)]) ⟨_, _, rfl, ⟨LL.appU (HRUZ.out.below HCT.out) ((HRZ.out.mono HBW.out).below HCT.out) HF5.out HWZ.out, HND.out.1⟩, ⟨LL.appU (HRSZ.out.below HCT.out) ((HRT.out.mono HBW.out).below HCT.out) HF6.out HWZ.out, HND.out.2⟩⟩)).kept HG9.out.1 (HON.out.below HCT.out).bt (by decide) (by decide))
                    have HGR9 := Lib.hid (HG3.out.trans (Grow.pre (HBZ3.out.trans (HCT.out.mono HBZ3.out.size)) HG9.out))
                    have HSN := Lib.hid (show Blk w9 pq tSp #[.slice Au vsu.length cu, .slice As vss.length cs, .int .i64 0] ∧ Blk w9 pz tSp #[.slice Az vsz.length cz1, .slice Bz vst.length ct1, .int .i64 0] from ⟨(HBQ3.out.below HCT.out HBQ3.out.lt).keptG HG9.out.1 HNQ.out.1, (HBP.out.below HCT.out HBP.out.lt).keptG HG9.out.1 HNQ.out.2⟩)
                    refine hK.out _ _ HSN.out (fun hS => ?_)
                    clear hK
                    try simp only [Act.put, List.setIfInBounds_toArray, List.set_cons_zero, List.set_cons_succ]
                    refine AnyT.go (rs := [16]) (by kernel_rfl) (by simp) ?_
                    refine AllT.cons rfl (fun K hK => ?_) AllT.nil
                    go_simp
                    refine hK.out _ _ HSN.out (fun hS => ?_)
                    clear hK
                    try simp only [Act.put, List.setIfInBounds_toArray, List.set_cons_zero, List.set_cons_succ]
                    refine AnyT.done (by kernel_rfl) ?_ _
                    go_wp2_with fail
                    go_roundw
                    case rel =>
                      refine ⟨m + 1, _, by omega, by go_num, HN9.out, ?_, HGR9.out⟩
                      rw [HTSM.out, List.map_append]
                      exact HE9.out
                    case measure => simp [intOf]; omega
                  · go_simp
                    have hb5 : Below (wz3.drew.alloc (.cells #[.slice Au vsu.length cu, .slice Az vsz.length cz1] tR)).heap.size (wz3.drew.alloc (.cells #[.slice Au vsu.length cu, .slice Az vsz.length cz1] tR)) ((wz3.drew.alloc (.cells #[.slice Au vsu.length cu, .slice Az vsz.length cz1] tR)).alloc (.cells #[.slice As vss.length cs, .slice Bz vst.length ct1] tR)) := below1 _ _
                    have HC5 := Lib.hid (Below.trans HC1.out (hb5.mono HC1.out.size))
                    have HX5_5 := Lib.hid (HX1_5.out.alloc (.cells #[.slice As vss.length cs, .slice Bz vst.length ct1] tR))
                    have HX5_11 := Lib.hid (show Blk ((wz3.drew.alloc (.cells #[.slice Au vsu.length cu, .slice Az vsz.length cz1] tR)).alloc (.cells #[.slice As vss.length cs, .slice Bz vst.length ct1] tR)) (wz3.heap.size + 1) tR _ from Blk.new1 wz3.drew _ _ _)
                    clear hb5
                    refine hK.out _ _ (HSF.out false _ HC5.out) (fun hS => ?_)
                    clear hK
                    try simp only [Act.put, List.setIfInBounds_toArray, List.set_cons_zero, List.set_cons_succ]
                    refine AnyT.go (rs := [6]) (by kernel_rfl) (by simp) ?_
                    refine AllT.cons rfl (fun K hK => ?_) AllT.nil
                    go_simp
                    refine (lib_ConcatF _ (wz3.heap.size) 2 Au Az cu cz1 vsu vsz (by omega) (by omega) (HX5_5.out.cell 0) (HX5_5.out.cell 1) (HVUZ.out.cells.below HC5.out) (HVZ.out.cells.below HC5.out) HRUZ.out.oneCell HRZ.out.oneCell HLEN.out.1).mono ?_
                    rintro e6 y6 ⟨r6, rfl, ho6, hb6⟩
                    obtain ⟨A6a, c6a, he6, -, -⟩ := ho6.cells.open_
                    obtain ⟨n6a, hn6⟩ : ∃ n, n = (vsu ++ vsz).length := ⟨_, rfl⟩
                    rw [← hn6] at he6
                    subst he6
                    clear hn6
                    have HC6 := Lib.hid (Below.trans HC5.out (hb6.mono HC5.out.size))
                    have HX6_11 := Lib.hid (HX5_11.out.below hb6 HX5_11.out.lt)
                    have HR6_6 := Lib.hid (ho6.mono HC5.out.size)
                    clear ho6 hb6
                    refine hK.out _ _ (HSF.out false _ HC6.out) (fun hS => ?_)
                    clear hK
                    try simp only [Act.put, List.setIfInBounds_toArray, List.set_cons_zero, List.set_cons_succ]
                    refine AnyT.go (rs := [12]) (by kernel_rfl) (by simp) ?_
                    refine AllT.cons rfl (fun K hK => ?_) AllT.nil
                    go_simp
                    refine (lib_ConcatF _ (wz3.heap.size + 1) 2 As Bz cs ct1 vss vst (by omega) (by omega) (HX6_11.out.cell 0) (HX6_11.out.cell 1) (HVSZ.out.cells.below HC6.out) (HVT.out.cells.below HC6.out) HRSZ.out.oneCell HRT.out.oneCell HLEN.out.2).mono ?_
                    rintro e7 y7 ⟨r7, rfl, ho7, hb7⟩
                    obtain ⟨A7a, c7a, he7, -, -⟩ := ho7.cells.open_
                    obtain ⟨n7a, hn7⟩ : ∃ n, n = (vss ++ vst).length := ⟨_, rfl⟩
                    rw [← hn7] at he7
                    subst he7
                    clear hn7
                    have HC7 := Lib.hid (Below.trans HC6.out (hb7.mono HC6.out.size))
                    have HR7_6 := Lib.hid (HR6_6.out.below hb7)
                    have HR7_12 := Lib.hid (ho7.mono HC6.out.size)
                    clear ho7 hb7
                    refine hK.out _ _ (HSF.out false _ HC7.out) (fun hS => ?_)
                    clear hK
                    try simp only [Act.put, List.setIfInBounds_toArray, List.set_cons_zero, List.set_cons_succ]
                    refine AnyT.go (rs := [13]) (by kernel_rfl) (by simp) ?_
                    refine AllT.cons rfl (fun K hK => ?_) AllT.nil
                    go_simp
                    refine hK.out _ _ (HSF.out false _ HC7.out) (fun hS => ?_)
                    clear hK
                    try simp only [Act.put, List.setIfInBounds_toArray, List.set_cons_zero, List.set_cons_succ]
                    refine AnyT.go (rs := [14]) (by kernel_rfl) (by simp) ?_
                    refine AllT.cons rfl (fun K hK => ?_) AllT.nil
                    go_simp
                    have hbt : Below y7.heap.size y7 (y7.alloc (.cells #[.slice A6a n6a c6a, .slice A7a n7a c7a, .int .i64 0] tSp)) := below1 _ _
                    have HCT := Lib.hid (Below.trans HC7.out (hbt.mono HC7.out.size))
                    have HF5 := Lib.hid (HR7_6.out.below hbt)
                    have HF6 := Lib.hid (HR7_12.out.below hbt)
                    clear hbt
                    refine hK.out _ _ (HSF.out false _ HCT.out) (fun hS => ?_)
                    clear hK
                    try simp only [Act.put, List.setIfInBounds_toArray, List.set_cons_zero, List.set_cons_succ]
                    refine AnyT.go (rs := [15]) (by kernel_rfl) (by simp) ?_
                    refine AllT.cons rfl (fun K hK => ?_) AllT.nil
                    refine step_app1K T_split (W := y7.alloc (.cells #[.slice A6a n6a c6a, .slice A7a n7a c7a, .int .i64 0] tSp)) (c := [.slice A6a n6a c6a, .slice A7a n7a c7a, .int .i64 ((0 : Nat) : Int)]) (HON.out.below HCT.out) (by omega) (Nat.le_trans HNZ.out HCT.out.size) rfl (by intro u hu; simp at hu; rcases hu with rfl | rfl | rfl <;> rfl) (lit_cells _ _ _ _ rfl) (by rfl) rfl (by rfl) (by rfl) ?_
                    intro v9 w9 hown9 hgr9
                    have HN9 := Lib.hid hown9
                    have HG9 := Lib.hid hgr9
                    clear hown9 hgr9
                    have HAZ9 := Lib.hid (HG9.out.below (HAQ3.out.trans (HCT.out.mono HAQ3.out.size)) (Nat.le_trans HAQ3.out.size HCT.out.size) HON.out.ge)
                    have HE9 := Lib.hid ((((HEN.out.below HCT.out).snoc (x := cz (combS y z)) (c := [.slice A6a n6a c6a, .slice A7a n7a c7a, .int .i64 ((0 : Nat) : Int)]) ⟨_, _, rfl, ⟨LL.appU (HRUZ.out.below HCT.out) ((HRZ.out.mono HBW.out).below HCT.out) HF5.out HWZ.out, HND.out.1⟩, ⟨LL.appU (HRSZ.out.below HCT.out) ((HRT.out.mono HBW.out).below HCT.out) HF6.out HWZ.out, HND.out.2⟩⟩)).kept HG9.out.1 (HON.out.below HCT.out).bt (by decide) (by decide))
                    have HGR9 := Lib.hid (HG3.out.trans (Grow.pre (HBZ3.out.trans (HCT.out.mono HBZ3.out.size)) HG9.out))
                    have HSN := Lib.hid (show Blk w9 pq tSp #[.slice Au vsu.length cu, .slice As vss.length cs, .int .i64 0] ∧ Blk w9 pz tSp #[.slice Az vsz.length cz1, .slice Bz vst.length ct1, .int .i64 0] from ⟨(HBQ3.out.below HCT.out HBQ3.out.lt).keptG HG9.out.1 HNQ.out.1, (HBP.out.below HCT.out HBP.out.lt).keptG HG9.out.1 HNQ.out.2⟩)
                    refine hK.out _ _ HSN.out (fun hS => ?_)
                    clear hK
                    try simp only [Act.put, List.setIfInBounds_toArray, List.set_cons_zero, List.set_cons_succ]
                    refine AnyT.go (rs := [16]) (by kernel_rfl) (by simp) ?_
                    refine AllT.cons rfl (fun K hK => ?_) AllT.nil
                    go_simp
                    refine hK.out _ _ HSN.out (fun hS => ?_)
                    clear hK
                    try simp only [Act.put, List.setIfInBounds_toArray, List.set_cons_zero, List.set_cons_succ]
                    refine AnyT.done (by kernel_rfl) ?_ _
                    go_wp2_with fail
                    go_roundw
                    case rel =>
                      refine ⟨m + 1, _, by omega, by go_num, HN9.out, ?_, HGR9.out⟩
                      rw [HTSM.out, List.map_append]
                      exact HE9.out
                    case measure => simp [intOf]; omega
                · go_simp
                  have hb8 : Below wz3.drew.heap.size wz3.drew (wz3.drew.alloc (.cells #[.slice As vss.length cs, .slice Bz vst.length ct1] tR)) := below1 _ _
                  have HC8 := Lib.hid (Below.trans HC0.out (hb8.mono HC0.out.size))
                  have HX8_11 := Lib.hid (show Blk (wz3.drew.alloc (.cells #[.slice As vss.length cs, .slice Bz vst.length ct1] tR)) wz3.drew.heap.size tR _ from Blk.new wz3.drew _ _)
                  clear hb8
                  refine hK.out _ _ (HSF.out false _ HC8.out) (fun hS => ?_)
                  clear hK
                  try simp only [Act.put, List.setIfInBounds_toArray, List.set_cons_zero, List.set_cons_succ]
                  refine AnyT.go (rs := [5]) (by kernel_rfl) (by simp) ?_
                  refine AllT.cons rfl (fun K hK => ?_) AllT.nil
                  go_simp
                  have hb9 : Below (wz3.drew.alloc (.cells #[.slice As vss.length cs, .slice Bz vst.length ct1] tR)).heap.size (wz3.drew.alloc (.cells #[.slice As vss.length cs, .slice Bz vst.length ct1] tR)) ((wz3.drew.alloc (.cells #[.slice As vss.length cs, .slice Bz vst.length ct1] tR)).alloc (.cells #[.slice Au vsu.length cu, .slice Az vsz.length cz1] tR)) := below1 _ _
                  have HC9 := Lib.hid (Below.trans HC8.out (hb9.mono HC8.out.size))
                  have HX9_11 := Lib.hid (HX8_11.out.alloc (.cells #[.slice Au vsu.length cu, .slice Az vsz.length cz1] tR))
                  have HX9_5 := Lib.hid (show Blk ((wz3.drew.alloc (.cells #[.slice As vss.length cs, .slice Bz vst.length ct1] tR)).alloc (.cells #[.slice Au vsu.length cu, .slice Az vsz.length cz1] tR)) (wz3.heap.size + 1) tR _ from Blk.new1 wz3.drew _ _ _)
                  clear hb9
                  refine hK.out _ _ (HSF.out false _ HC9.out) (fun hS => ?_)
                  clear hK
                  try simp only [Act.put, List.setIfInBounds_toArray, List.set_cons_zero, List.set_cons_succ]
                  refine AnyT.go (rs := [6]) (by kernel_rfl) (by simp) ?_
                  refine AllT.cons rfl (fun K hK => ?_) AllT.nil
                  go_simp
                  refine (lib_ConcatF _ (wz3.heap.size + 1) 2 Au Az cu cz1 vsu vsz (by omega) (by omega) (HX9_5.out.cell 0) (HX9_5.out.cell 1) (HVUZ.out.cells.below HC9.out) (HVZ.out.cells.below HC9.out) HRUZ.out.oneCell HRZ.out.oneCell HLEN.out.1).mono ?_
                  rintro e10 y10 ⟨r10, rfl, ho10, hb10⟩
                  obtain ⟨A10a, c10a, he10, -, -⟩ := ho10.cells.open_
                  obtain ⟨n10a, hn10⟩ : ∃ n, n = (vsu ++ vsz).length := ⟨_, rfl⟩
                  rw [← hn10] at he10
                  subst he10
                  clear hn10
                  have HC10 := Lib.hid (Below.trans HC9.out (hb10.mono HC9.out.size))
                  have HX10_11 := Lib.hid (HX9_11.out.below hb10 HX9_11.out.lt)
                  have HR10_6 := Lib.hid (ho10.mono HC9.out.size)
                  clear ho10 hb10
                  refine hK.out _ _ (HSF.out false _ HC10.out) (fun hS => ?_)
                  clear hK
                  try simp only [Act.put, List.setIfInBounds_toArray, List.set_cons_zero, List.set_cons_succ]
                  refine AnyT.go (rs := [12]) (by kernel_rfl) (by simp) ?_
                  refine AllT.cons rfl (fun K hK => ?_) AllT.nil
                  go_simp
                  refine (lib_ConcatF _ (wz3.heap.size) 2 As Bz cs ct1 vss vst (by omega) (by omega) (HX10_11.out.cell 0) (HX10_11.out.cell 1) (HVSZ.out.cells.below HC10.out) (HVT.out.cells.below HC10.out) HRSZ.out.oneCell HRT.out.oneCell HLEN.out.2).mono ?_
                  rintro e11 y11 ⟨r11, rfl, ho11, hb11⟩
                  obtain ⟨A11a, c11a, he11, -, -⟩ := ho11.cells.open_
                  obtain ⟨n11a, hn11⟩ : ∃ n, n = (vss ++ vst).length := ⟨_, rfl⟩
                  rw [← hn11] at he11
                  subst he11
                  clear hn11
                  have HC11 := Lib.hid (Below.trans HC10.out (hb11.mono HC10.out.size))
                  have HR11_6 := Lib.hid (HR10_6.out.below hb11)
                  have HR11_12 := Lib.hid (ho11.mono HC10.out.size)
                  clear ho11 hb11
                  refine hK.out _ _ (HSF.out false _ HC11.out) (fun hS => ?_)
                  clear hK
                  try simp only [Act.put, List.setIfInBounds_toArray, List.set_cons_zero, List.set_cons_succ]
                  refine AnyT.go (rs := [13]) (by kernel_rfl) (by simp) ?_
                  refine AllT.cons rfl (fun K hK => ?_) AllT.nil
                  go_simp
                  refine hK.out _ _ (HSF.out false _ HC11.out) (fun hS => ?_)
                  clear hK
                  try simp only [Act.put, List.setIfInBounds_toArray, List.set_cons_zero, List.set_cons_succ]
                  refine AnyT.go (rs := [14]) (by kernel_rfl) (by simp) ?_
                  refine AllT.cons rfl (fun K hK => ?_) AllT.nil
                  go_simp
                  have hbt : Below y11.heap.size y11 (y11.alloc (.cells #[.slice A10a n10a c10a, .slice A11a n11a c11a, .int .i64 0] tSp)) := below1 _ _
                  have HCT := Lib.hid (Below.trans HC11.out (hbt.mono HC11.out.size))
                  have HF5 := Lib.hid (HR11_6.out.below hbt)
                  have HF6 := Lib.hid (HR11_12.out.below hbt)
                  clear hbt
                  refine hK.out _ _ (HSF.out false _ HCT.out) (fun hS => ?_)
                  clear hK
                  try simp only [Act.put, List.setIfInBounds_toArray, List.set_cons_zero, List.set_cons_succ]
                  refine AnyT.go (rs := [15]) (by kernel_rfl) (by simp) ?_
                  refine AllT.cons rfl (fun K hK => ?_) AllT.nil
                  refine step_app1K T_split (W := y11.alloc (.cells #[.slice A10a n10a c10a, .slice A11a n11a c11a, .int .i64 0] tSp)) (c := [.slice A10a n10a c10a, .slice A11a n11a c11a, .int .i64 ((0 : Nat) : Int)]) (HON.out.below HCT.out) (by omega) (Nat.le_trans HNZ.out HCT.out.size) rfl (by intro u hu; simp at hu; rcases hu with rfl | rfl | rfl <;> rfl) (lit_cells _ _ _ _ rfl) (by rfl) rfl (by rfl) (by rfl) ?_
                  intro v9 w9 hown9 hgr9
                  have HN9 := Lib.hid hown9
                  have HG9 := Lib.hid hgr9
                  clear hown9 hgr9
                  have HAZ9 := Lib.hid (HG9.out.below (HAQ3.out.trans (HCT.out.mono HAQ3.out.size)) (Nat.le_trans HAQ3.out.size HCT.out.size) HON.out.ge)
                  have HE9 := Lib.hid ((((HEN.out.below HCT.out).snoc (x := cz (combS y z)) (c := [.slice A10a n10a c10a, .slice A11a n11a c11a, .int .i64 ((0 : Nat) : Int)]) ⟨_, _, rfl, ⟨LL.appU (HRUZ.out.below HCT.out) ((HRZ.out.mono HBW.out).below HCT.out) HF5.out HWZ.out, HND.out.1⟩, ⟨LL.appU (HRSZ.out.below HCT.out) ((HRT.out.mono HBW.out).below HCT.out) HF6.out HWZ.out, HND.out.2⟩⟩)).kept HG9.out.1 (HON.out.below HCT.out).bt (by decide) (by decide))
                  have HGR9 := Lib.hid (HG3.out.trans (Grow.pre (HBZ3.out.trans (HCT.out.mono HBZ3.out.size)) HG9.out))
                  have HSN := Lib.hid (show Blk w9 pq tSp #[.slice Au vsu.length cu, .slice As vss.length cs, .int .i64 0] ∧ Blk w9 pz tSp #[.slice Az vsz.length cz1, .slice Bz vst.length ct1, .int .i64 0] from ⟨(HBQ3.out.below HCT.out HBQ3.out.lt).keptG HG9.out.1 HNQ.out.1, (HBP.out.below HCT.out HBP.out.lt).keptG HG9.out.1 HNQ.out.2⟩)
                  refine hK.out _ _ HSN.out (fun hS => ?_)
                  clear hK
                  try simp only [Act.put, List.setIfInBounds_toArray, List.set_cons_zero, List.set_cons_succ]
                  refine AnyT.go (rs := [16]) (by kernel_rfl) (by simp) ?_
                  refine AllT.cons rfl (fun K hK => ?_) AllT.nil
                  go_simp
                  refine hK.out _ _ HSN.out (fun hS => ?_)
                  clear hK
                  try simp only [Act.put, List.setIfInBounds_toArray, List.set_cons_zero, List.set_cons_succ]
                  refine AnyT.done (by kernel_rfl) ?_ _
                  go_wp2_with fail
                  go_roundw
                  case rel =>
                    refine ⟨m + 1, _, by omega, by go_num, HN9.out, ?_, HGR9.out⟩
                    rw [HTSM.out, List.map_append]
                    exact HE9.out
                  case measure => simp [intOf]; omega
              · have hml : m = lb.length := by omega
                have HPE := Lib.hid (show prodS (acc.take j) lb ++ (lb.take m).map (combS y) = prodS (acc.take (j + 1)) lb from by rw [hml, List.take_length, HPS.out])
                have h := HCE3.out
                rw [HPE.out] at h
                have HCF := Lib.hid h
                clear h hnx0
                go_wp2_with fail
                go_roundw
                case rel => exact ⟨j + 1, css3, by omega, by go_num, HO3.out, HCF.out, HAZ.out⟩
                case measure => simp [intOf]; omega
          · have hja : j = acc.length := by omega
            have HPE := Lib.hid (show prodS (acc.take j) lb = prodS acc lb from by rw [hja, List.take_length])
            rw [HPE.out] at hce2
            go_wp2_with fail
            go_roundw
            case rel => exact ⟨i + 1, prodS acc lb, css2, by omega, by go_num, ho2.mono HWA.out, hce2, HNX.out, HOKP.out, HBX.out.trans (hb2.mono HBX.out.size)⟩
            case measure => simp [intOf]; omega
      · have hil : i = bs.length := by omega
        have HAC := Lib.hid (show acc = l from by have h := HLV.out; rw [hil, List.drop_length, loopV] at h; injection h)
        have hal := HAL.out.1
        have hacl : acc.length = l.length := by rw [HAC.out]
        have HOL := Lib.hid (show OwnK wr w.heap.size tSp 3 (.slice Ao l.length co) css from by have h := HO.out; rw [hacl] at h; exact h)
        have HCL := Lib.hid (show Elts eSc wr w.heap.size css (l.map cz) from by have h := HCE.out; rw [HAC.out] at h; exact h)
        rw [hacl]
        have hll := HOKL.out.1
        clear hacl hal HO HCE hil
        have HL2 := Lib.hid (mapO_len HTR.out)
        go_wp2_with fail
        obtain ⟨wv, hwv⟩ : ∃ wv : World, wv = wr := ⟨_, rfl⟩
        rw [← hwv] at HOL HCL HB ⊢
        clear hwv
        go_loopw [58] (fun x wr => ∃ (i : Nat) (css4 : List (List Value)), i ≤ l.length ∧ x = .int .i64 i ∧ OwnK wr w.heap.size tSp 3 (.slice Ao l.length co) css4 ∧ Elts eSc wr w.heap.size css4 ((l2.take i ++ l.drop i).map cz) ∧ Below w.heap.size w wr) (fun x _ => l.length - (intOf x).toNat)
        case atStart => exact ⟨0, css, Nat.zero_le _, rfl, HOL.out, by simpa using HCL.out, HB.out⟩
        case round =>
          obtain ⟨k, css4, hk, rfl, ho4, hce4, hb4⟩ := hrel
          have HO4 := Lib.hid ho4
          have HCE4 := Lib.hid hce4
          have HB4 := Lib.hid hb4
          by_cases hlt4 : k < l.length
          · obtain ⟨y, hy⟩ : ∃ y, l[k]? = some y := ⟨_, List.getElem?_eq_getElem hlt4⟩
            obtain ⟨y', hy', htv⟩ := mapO_get HTR.out k y hy
            have hge : (l2.take k ++ l.drop k)[k]? = some y := by
              rw [List.getElem?_append_right (by simp; omega)]
              simp [Nat.min_eq_left (show k ≤ l2.length by rw [HL2.out]; omega), hy]
            have hse : (l2.take k ++ l.drop k).set k y' = l2.take (k + 1) ++ l.drop (k + 1) := by
              have hd : l.drop k = y :: l.drop (k + 1) := by obtain ⟨hk, rfl⟩ := List.getElem?_eq_some_iff.1 hy; exact List.drop_eq_getElem_cons hk
              rw [List.take_add_one, hy', hd, List.set_append_right _ _ (by simp; omega)]
              simp [Nat.min_eq_left (show k ≤ l2.length by rw [HL2.out]; omega)]
            obtain ⟨cy, hcy, hD⟩ := hce4.at_ (i := k) (x := cz y) (by rw [List.getElem?_map, hge]; rfl)
            obtain ⟨u, s, rfl, hu0, hs0⟩ := hD
            have hs1 : LL wr w.heap.size s (y.2.map up) ∧ y.2.length ≤ 1000000 ∧ ndN y.2 ≤ 1000000 := hs0
            obtain ⟨hot, hbl, r, hr, hor, hyr⟩ := trunkV_some htv
            have hot2 := okT1_of hot
            have hor2 := okT1_of hor
            have hu1 : LL wr w.heap.size u (y.1.map up) ∧ y.1.length ≤ 1000000 ∧ ndN y.1 ≤ 1000000 := hu0
            obtain ⟨Au, cu, rfl, -, -, -⟩ := hu1.1.rows.open_
            obtain ⟨As, cs, rfl, -, -, -⟩ := hs1.1.rows.open_
            simp only [List.length_map] at hcy hu0 hs1
            have hok := HOKL.out.2 y (List.mem_of_getElem? hy)
            have HRO := Lib.hid (fun W h => i_rootOn W (.slice As y.2.length cs) y.2 h (fun q hq => ⟨by have := (hok.2 q hq).1; omega, fun l hl => by have := (hok.2 q hq).2 l hl; omega⟩) hbl (by have := hs1.2.1; have := hok.1.2.1; omega))
            have HCN := Lib.hid (fun W v h => i_canonical 9 W v (rootN y.2) r h hr (by have := hot2.1; omega) (fun l hl => by have := hot2.2 l hl; omega))
            obtain ⟨go, cg, heo, hg0⟩ := ho4.cell (j := 0) hcy rfl
            simp only [Value.slice.injEq] at heo
            obtain ⟨rfl, -, rfl⟩ := heo
            have hq0 : wr.cell? ⟨go, k * 3, none⟩ = some (.slice Au y.1.length cu) := hg0
            have hq1 : wr.cell? ⟨go, k * 3 + 1, none⟩ = some (.slice As y.2.length cs) := by obtain ⟨g', c', he', h'⟩ := ho4.cell (j := 1) hcy rfl; simp only [Value.slice.injEq, Option.some.injEq, Addr.mk.injEq, and_true, true_and] at he'; rw [he'.1]; exact h'
            have hq2 : wr.cell? ⟨go, k * 3 + 2, none⟩ = some (.int .i64 0) := by obtain ⟨g', c', he', h'⟩ := ho4.cell (j := 2) hcy rfl; simp only [Value.slice.injEq, Option.some.injEq, Addr.mk.injEq, and_true, true_and] at he'; rw [he'.1]; exact h'
            have HSR := Lib.hid hs1.1.rows
            have HU0 := Lib.hid (show eSc.D wr w.heap.size [.slice Au y.1.length cu, .slice As y.2.length cs, .int .i64 ((0 : Nat) : Int)] (cz y) from ⟨_, _, rfl, hu0, hs1⟩)
            have HUF := Lib.hid (show fldF.P wr w.heap.size (.slice Au y.1.length cu) y.1 from hu0)
            have HCY := Lib.hid hcy
            have HSE := Lib.hid hse
            have HYR := Lib.hid hyr
            have HRN := Lib.hid hor2
            have hkk : (k : Int) < (l.length : Int) := by omega
            clear hu0 hs0 hu1 hs1 hg0 hcy hge hse hy hy' htv hot hot2 hr hor hor2 hyr hok ho4 hce4 hb4
            go_upto_region 20 with fail
            obtain ⟨wp, hwp⟩ : ∃ wp : World, wp = wr.alloc (.cells #[.slice Au y.1.length cu, .slice As y.2.length cs, .int .i64 0] tSp) := ⟨_, rfl⟩
            have HBP := Lib.hid (show Below wr.heap.size wr wp from by rw [hwp]; exact below1 _ _)
            have HBK := Lib.hid (show Blk wp wr.heap.size tSp #[.slice Au y.1.length cu, .slice As y.2.length cs, .int .i64 0] from by rw [hwp]; exact Blk.new wr _ _)
            first | rw [← hwp] | skip
            clear hwp hq0 hq1 hq2
            have hp1 : wp.cell? ⟨wr.heap.size, 1, none⟩ = some (.slice As y.2.length cs) := HBK.out.cell 1
            go_wp2_with (first
              | (go_at_call 205; go_loud ((with_reducible refine (HRO.out _ (HSR.out.below HBP.out)).mono ?_); rintro e w5 ⟨x5, rfl, ho5, hb5⟩; have HO5 := Lib.hid ho5; have HB5 := Lib.hid (HBP.out.trans (hb5.mono HBP.out.size)); clear ho5 hb5))
              | (go_at_call 170; go_loud ((with_reducible refine (HCN.out _ _ HO5.out.ints).mono ?_); rintro e w6 ⟨x6, rfl, ho6, hb6⟩; have HB6 := Lib.hid (HB5.out.trans (hb6.mono HB5.out.size)); obtain ⟨A6, c6, he6, -, -, -⟩ := ho6.ints.open_; rw [up_len] at he6; subst he6; have HO6 := Lib.hid ho6; obtain ⟨⟨q0, hst0⟩, hfz0, -, hstO, hstG⟩ := ((HO4.out.below HB6.out).below (below1 w6 (.cells #[.slice A6 r.length c6] tL))).storeAt (j := 1) HCY.out (by omega) (.slice (some ⟨w6.heap.size, 0, none⟩) 1 1); have HSO := Lib.hid hstO; have HSG := Lib.hid hstG; clear hb6 ho6 hstO hstG)))
            have hb6' : Below wr.heap.size wr (w6.alloc (.cells #[.slice A6 r.length c6] tL)) := HB6.out.trans ((below1 w6 _).mono HB6.out.size)
            have HWS := Lib.hid (show w.heap.size ≤ w6.heap.size from Nat.le_trans HB4.out.size HB6.out.size)
            have HE7 := Lib.hid (((HCE4.out.below hb6').set_ (i := k) (c := [.slice Au y.1.length cu, .slice (some ⟨w6.heap.size, 0, none⟩) 1 1, .int .i64 ((0 : Nat) : Int)]) (x := cz (y.1, [r])) ⟨_, _, rfl, fldF.below HUF.out hb6', ⟨LL.one (HO6.out.mono (Nat.le_trans HB4.out.size HB5.out.size)) HWS.out, (show [r].length ≤ 1000000 from by simp), (show ndN [r] ≤ 1000000 from by have := HRN.out.1; simp [ndN]; omega)⟩⟩).kept (v := .slice (some ⟨go, 0, none⟩) l.length co) HSG.out ((HO4.out.below hb6').bt) (by decide) (by decide))
            have HB7 := Lib.hid (Grow.below (v := .slice (some ⟨go, 0, none⟩) l.length co) (v' := .slice (some ⟨go, 0, none⟩) l.length co) ⟨HSG.out, .inl rfl⟩ (HB4.out.trans (hb6'.mono HB4.out.size)) (Nat.le_trans HB4.out.size hb6'.size) HO4.out.ge)
            clear hb6' hp1 hst0 hfz0
            go_roundw
            case rel =>
              have h := HE7.out
              rw [← List.map_set, ← HYR.out, HSE.out] at h
              have HE8 := Lib.hid h
              clear h
              first
                | exact ⟨k + 1, _, by omega, by go_num, HSO.out, HE8.out, HB7.out⟩
                | ((repeat apply Exists.intro); exact ⟨⟨k + 1, _, by omega, by go_num, HSO.out, HE8.out, HB7.out⟩, rfl⟩)
            case measure => simp [intOf]; omega
          · have hkl : k = l.length := by omega
            have HTK := Lib.hid (show l2.take k ++ l.drop k = l2 from by rw [hkl, List.drop_length, List.append_nil]; exact List.take_of_length_le (by rw [HL2.out]; exact Nat.le_refl _))
            rw [HTK.out] at hce4
            have HCE5 := Lib.hid hce4
            have HC5 := Lib.hid (show css4.length ≤ 1000 from by rw [hce4.1, List.length_map, HL2.out]; omega)
            have HLL := Lib.hid (show css4.length = l.length from by rw [hce4.1, List.length_map, HL2.out])
            have HO5 := Lib.hid (show OwnK wr w.heap.size tSp 3 (.slice Ao l.length co) css4 from ho4)
            clear hkl hce4 ho4 hb4
            go_wp2_with (first
              | (go_at_call 170; go_loud ((with_reducible refine (HCA.out _ (HA.out.below HB4.out)).mono ?_); rintro e w6 ⟨x6, rfl, ho6, hb6⟩; obtain ⟨A6, c6, he6, -, -, -⟩ := ho6.ints.open_; rw [up_len] at he6; subst he6; have HO6 := Lib.hid ho6; have HB6 := Lib.hid hb6; clear ho6 hb6))
              | (at_builtin; go_loud (refine wpList_app1K T_split (ad := ⟨w6.heap.size + 1, 0, none⟩) (W := (w6.alloc (.cells #[.slice A6 c.length c6] tL)).alloc (.cells #[.slice (some ⟨w6.heap.size, 0, none⟩) 1 1, .slice none 0 0, .int .i64 0] tSp)) (c := [.slice (some ⟨w6.heap.size, 0, none⟩) 1 1, .slice none 0 0, .int .i64 ((0 : Nat) : Int)]) (((HO5.out.below HB6.out).below (below1 w6 _)).below (below1 _ _)) (by have := HC5.out; omega) (by have h1 := HB4.out.size; have h2 := HB6.out.size; simp; omega) rfl (by intro u hu; simp at hu; rcases hu with rfl | rfl | rfl <;> rfl) (fun j u hu => by have h := lit_cells (w6.alloc (.cells #[.slice A6 c.length c6] tL)) tSp [.slice (some ⟨w6.heap.size, 0, none⟩) 1 1, .slice none 0 0, .int .i64 ((0 : Nat) : Int)] #[.slice (some ⟨w6.heap.size, 0, none⟩) 1 1, .slice none 0 0, .int .i64 0] rfl j u hu; rw [size_alloc'] at h; exact h) (by rfl) rfl (by rfl) (by rfl) ?_; intro v5 w5 hown5 hgr5; have HN5 := Lib.hid hown5; have HG5 := Lib.hid hgr5; clear hown5 hgr5)))
            go_ret
            have hba : Below w6.heap.size w6 (w6.alloc (.cells #[.slice A6 c.length c6] tL)) := below1 w6 _
            have hbb : Below wr.heap.size wr ((w6.alloc (.cells #[.slice A6 c.length c6] tL)).alloc (.cells #[.slice (some ⟨w6.heap.size, 0, none⟩) 1 1, .slice none 0 0, .int .i64 0] tSp)) := HB6.out.trans ((hba.trans ((below1 (w6.alloc (.cells #[.slice A6 c.length c6] tL)) _).mono hba.size)).mono HB6.out.size)
            refine ⟨_, rfl, ⟨_, HN5.out, ?_⟩, HG5.out.below (HB4.out.trans (hbb.mono HB4.out.size)) (Nat.le_trans HB4.out.size hbb.size) HO5.out.ge⟩
            rw [HRR.out, List.map_append]
            refine ((HCE5.out.below hbb).snoc (x := cz ([c], [])) ⟨_, _, rfl, ⟨(LL.one (HO6.out.mono HB4.out.size) (Nat.le_trans HB4.out.size HB6.out.size)).below (below1 _ _), (show [c].length ≤ 1000000 from by simp), ?_⟩, ⟨LL.nil _ _, Nat.zero_le _, Nat.zero_le _⟩⟩).kept HG5.out.1 (HO5.out.below hbb).bt (by decide) (by decide)
            show ndN [c] ≤ 1000000
            have := HCL1.out
            simp [ndN]; omega
end Go.Proofs.YtdjhfeaimmpmhaaGreat

