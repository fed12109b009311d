import Derived.Test.YtofabikjjkapmaaGreatSm31
import Derived.Test.YtofabikjjkapmaaGreatSm21
import Derived.Test.YtofabikjjkapmaaGreatSm32
import Derived.Test.YtofabikjjkapmaaGreatSm17
import Derived.Test.YtofabikjjkapmaaGreatSm20
import Derived.Test.YtofabikjjkapmaaGreatSm19
import Derived.StillTailTactics
import Derived.BigQuiet
import Derived.Deep.RegionLaw
import Derived.Deep.CutRange
import Derived.Deep.CutBlock
import Derived.Deep.DeepCutAuto
set_option maxRecDepth 100000
set_option linter.unusedVariables false
set_option linter.unusedSimpArgs false
namespace Go.Proofs.YtofabikjjkapmaaGreat
open Go.RowKit
theorem own_some1 {w : World} {B : Nat} {v : Value} {zs : List Int} (h : OwnInts w B tI v zs) (h1 : 1 <= zs.length) : ∃ g cap, v = .slice (some ⟨g, 0, none⟩) zs.length cap /\ B <= g := by
 rcases h.1.cases with ⟨-, e⟩ | ⟨g, cap, cur, e, hb, -⟩
 · have := congrArg List.length e
   rw [ints_len] at this
   simp at this
   subst this
   simp at h1
 · rw [ints_len] at e
   exact ⟨g, cap, e, hb⟩
theorem chg_ofE {w w' : World} {g : Nat} (h : w.grownBy w' (some g)) : Chg g (g + 1) w w' := ⟨h.os, h.tape, h.output, h.size, fun k hk hd => h.block k hk (by intro e; injection e with e; omega)⟩
theorem ints_setE (zs : List Int) (k : Nat) (z : Int) : (ints zs).set k (.int .i64 z) = ints (zs.set k z) := by simp [ints, List.map_set]
set_option maxHeartbeats 1000000 in
theorem s_l01DotE (w : World) (v vo : Value) (zs ys : List Int) (ha : Ints w v zs) (ho : Ints w vo ys) (hN : Nums zs) (hY : Nums ys) (hl : zs.length <= ys.length) (hn : ys.length <= 1000) :
  Calls Tryz.prog 230 #[v, vo] w fun e w' => ∃ z, e = .returned (.int .i64 z) /\ (0 <= z /\ z <= 10006) /\ ∃ n, w' = w.drewN n := by
 obtain ⟨A, c, rfl, l1, l2, h3⟩ := ha.open_
 obtain ⟨A', c', rfl, l1', l2', g3⟩ := ho.open_
 have H3 := Lib.hid h3
 have G3 := Lib.hid g3
 have HN := Lib.hid hN
 have HY := Lib.hid hY
 clear ha ho h3 g3 hN hY
 go_enter Tryz.func230, Tryz.ntmps230
 go_wp2_with fail
 go_loopw [5, 6] (fun s i wr => ∃ (m q : Nat) (z : Int), m <= zs.length /\ i = .int .i64 m /\ s = .int .i64 z /\ 0 <= z /\ z <= 10006 /\ wr = w.drewN q) (fun _ i _ => zs.length - (intOf i).toNat)
 case atStart => exact ⟨0, 0, 0, Nat.zero_le _, rfl, rfl, by omega, by omega, rfl⟩
 case round =>
  obtain ⟨m, q, z, hm, rfl, rfl, z0, z1, rfl⟩ := hrel
  by_cases hlt : m < zs.length
  · obtain ⟨ad, x, rfl, hx, -, hcx⟩ := H3.out m hlt
    obtain ⟨ad', y, rfl, hy, -, hcy⟩ := G3.out m (by omega)
    have hxn := HN.out x (List.mem_of_getElem? hx)
    have hyn := HY.out y (List.mem_of_getElem? hy)
    have hmi : (m : Int) < (zs.length : Int) := by omega
    have hmn : (m : Int) < (ys.length : Int) := by omega
    have hmn' : m < ys.length := by omega
    have HMU := Lib.hid (fun X => s_l01Mul x y X (by omega) (by omega) (by omega) (by omega))
    have hmb := nume_bd (x * y)
    generalize x * y % 10007 = xy at *
    have HAD := Lib.hid (fun X => s_l01Add z xy X (by omega) (by omega) (by omega) (by omega))
    have hab := nume_bd (z + xy)
    generalize (z + xy) % 10007 = zz at *
    clear hx hy hxn hyn hmb
    go_wp2_with fail
    go_quiet ((first | (go_at_call 176; exact quiet_same (HMU.out _)) | (go_at_call 189; exact quiet_same (HAD.out _))))
    go_wp2_with fail
    go_roundw
    case rel => exact ⟨m + 1, _, zz, by omega, by go_num, rfl, hab.1, hab.2, rfl⟩
    case measure => simp [intOf]; omega
  · have : m = zs.length := by omega
    subst this
    go_wp2_with fail
    go_ret
    exact ⟨_, rfl, ⟨z0, z1⟩, _, rfl⟩
set_option maxHeartbeats 2000000 in
theorem s_l09TimesE (w : World) (v vo : Value) (A : List (List Int)) (ys : List Int) (ha : Rows w v A) (ho : Ints w vo ys) (hY : Nums ys) (hN : ∀ zs ∈ A, Nums zs /\ zs.length <= ys.length) (hal : A.length <= 1000) (hn : ys.length <= 1000) :
  Calls Tryz.prog 182 #[v, vo] w fun e w' => ∃ r, e = .returned r /\ ∃ us, OwnInts w' w.heap.size tI r us /\ Nl A.length us /\ Below w.heap.size w w' := by
 obtain ⟨A1, c1, rfl, l1, l2, h3⟩ := ha.open_
 obtain ⟨A', c', rfl, l1', l2', -⟩ := ho.open_
 have H3 := Lib.hid h3
 have HP := Lib.hid ho
 have HN := Lib.hid hN
 have HY := Lib.hid hY
 clear ha ho h3 hN hY
 have OL := Lib.hid (own_lit w tI [] (by simp [maxLen]))
 go_enter Tryz.func182, Tryz.ntmps182
 go_wp2_with fail
 go_loopw [5, 6] (fun o i wr => ∃ (j : Nat) (us : List Int), j <= A.length /\ i = .int .i64 j /\ OwnInts wr w.heap.size tI o us /\ Hid (Nl j us) /\ Below w.heap.size w wr) (fun _ i _ => A.length - (intOf i).toNat)
 case atStart => exact ⟨0, [], Nat.zero_le _, rfl, ⟨by simpa [ints] using OL.out, by simp⟩, ⟨rfl, fun z hz => by cases hz⟩, below1 _ _⟩
 case round =>
  obtain ⟨j, us, hj, rfl, hown, HU, hb⟩ := hrel
  clear OL
  have HO := Lib.hid hown
  have HB := Lib.hid hb
  clear hown hb
  by_cases hlt : j < A.length
  · obtain ⟨ad, u, zs, rfl, hz, hu, hc0⟩ := H3.out j hlt
    have hc : wr.cell? (ad.add j) = some u := by
     rw [HB.out.cell (by rw [block_add]; have := World.block_lt_of_cell? w _ hc0; rwa [block_add] at this)]; exact hc0
    have HZ := Lib.hid (hu.below HB.out)
    have HQ := Lib.hid (HP.out.below HB.out)
    have HZN := Lib.hid (HN.out zs (List.mem_of_getElem? hz))
    have hji : (j : Int) < (A.length : Int) := by omega
    have hul : us.length <= 1000 := by rw [HU.out.1]; omega
    clear hz hu hc0
    go_wp2_with (first
     | (go_at_call 230; refine (s_l01DotE _ _ _ zs ys (by exact HZ.out) (by exact HQ.out) HZN.out.1 HY.out HZN.out.2 hn).mono ?_; rintro e w5 ⟨z, rfl, hzb, n5, rfl⟩)
     | (at_builtin; refine wpList_app1 T_int (show Own (wr.drewN n5) w.heap.size tI _ (ints us) from HO.out.1) (by rw [ints_len]; omega) HB.out.size (by rfl) rfl (by rfl) (by rfl) (by rfl) ?_; intro v1 w1 hown1 hgr1))
    go_roundw
    case rel =>
     refine ⟨j + 1, us ++ [z], by omega, by go_num, ⟨by simpa [ints] using hown1, fun y hy => ?_⟩, HU.out.snoc hzb, hgr1.below (below_drewN HB.out _) HB.out.size HO.out.1.ge⟩
     rcases List.mem_append.1 hy with hy | hy
     · exact HO.out.2 y hy
     · simp at hy; subst hy; unfold In64; omega
    case measure => simp [intOf]; omega
  · have : j = A.length := by omega
    subst this
    go_wp2_with fail
    go_ret
    exact ⟨_, rfl, us, HO.out, HU.out, HB.out⟩
theorem nl_setE {n : Nat} {us : List Int} {z : Int} {k : Nat} (h : Nl n us) (hz : 0 <= z /\ z <= 10006) : Nl n (us.set k z) :=
 ⟨by rw [List.length_set]; exact h.1, fun y hy => by
  rcases List.mem_or_eq_of_mem_set hy with hy | rfl
  · exact h.2 y hy
  · exact hz⟩
set_option maxHeartbeats 16000000 in
theorem s_l09Stages : ∀ (f : Nat) (w : World) (v vt : Value) (A : List (List Int)) (Bs : List Int) (t : List Nat) (r n : Nat), TabArg w v A Bs -> Sqm n n A -> Bs.length = n -> 1 <= n -> n <= 8 -> Ints w vt (up t) -> denO f t = some r -> t.length <= 1000 -> (∀ l ∈ t, l <= 1000000) ->
  Calls Tryz.prog 248 #[v, vt] w fun e w' => ∃ x, e = .returned x /\ ∃ us, OwnInts w' w.heap.size tI x us /\ Nl n us /\ Below w.heap.size w w' := by
 intro f
 induction f with
 | zero => intro w v vt A Bs t r n _ _ _ _ _ _ h; cases h
 | succ f ih =>
  intro w v vt A Bs t r n hta hsq hbl hn1 hn8 ht hr htl hl
  obtain ⟨bs, hb, hd⟩ := denO_succ hr
  obtain ⟨va1, vb1, rfl, ha1, ha2⟩ := hta
  obtain ⟨A1, c1, rfl, -, -, -⟩ := ha1.open_
  obtain ⟨A2, c2, rfl, -, -, -⟩ := ha2.open_
  rw [hbl] at ha2 ⊢
  rw [hsq.1] at ha1 ⊢
  have IH := Lib.hid ih
  have HSQ := Lib.hid hsq
  have HBLN := Lib.hid hbl
  have HBR := Lib.hid (And.intro (brO_lens hb htl) (brO_mem hb hl))
  have HDN := Lib.hid (show ∀ b ∈ bs, ∃ d, denO f b = some d from by
   intro b hbm
   have : ∀ (bs : List (List Nat)) (a r : Nat), denL (denO f) bs a = some r -> ∀ b ∈ bs, ∃ d, denO f b = some d := by
    intro bs
    induction bs with
    | nil => intro a r _ b hb; cases hb
    | cons c cs ihc =>
     intro a r h b hb
     obtain ⟨d, h1, -, h3⟩ := denL_cons h
     rcases List.mem_cons.1 hb with rfl | hb
     · exact ⟨d, h1⟩
     · exact ihc _ _ h3 b hb
   exact this bs _ _ hd b hbm)
  obtain ⟨W, hW⟩ : ∃ W, W = w.alloc (.cells #[.slice A1 n c1, .slice A2 n c2] tTb) := ⟨_, rfl⟩
  have hbw : Below w.heap.size w W := by rw [hW]; exact below1 w _
  have HBW := Lib.hid hbw
  have HKF := Lib.hid (show Blk W w.heap.size tTb #[.slice A1 n c1, .slice A2 n c2] from by rw [hW]; exact Blk.new _ _ _)
  have HTA := Lib.hid (show TabArg W (.agg #[.slice A1 n c1, .slice A2 n c2]) A Bs from ⟨_, _, rfl, ha1.below hbw, ha2.below hbw⟩)
  have HRA := Lib.hid (show Rows W (.slice A1 n c1) A from ha1.below hbw)
  have HPT := Lib.hid (fun X (hX : Below W.heap.size W X) => s_l03Parts X vt t bs ((ht.below hbw).below hX) hb htl hl)
  obtain ⟨At, ct, rfl, -, -, -⟩ := ht.open_
  have q0 : W.cell? ⟨w.heap.size, 0, none⟩ = some (.slice A1 n c1) := HKF.out.cell 0
  have q1 : W.cell? ⟨w.heap.size, 1, none⟩ = some (.slice A2 n c2) := HKF.out.cell 1
  clear ih ht hr hb hd hl ha1 ha2 hsq hbl hbw
  go_enter Tryz.func248, Tryz.ntmps248
  go_upto_region 1 with fail
  rw [<- hW]
  clear hW
  go_wp2_with (first
   | (go_at_call 183; go_loud (refine (s_l09Ones W n (by omega)).mono ?_; rintro e w1 ⟨x1, rfl, ho1, hb1⟩; obtain ⟨g, cap, hx1, hgg⟩ := own_some1 ho1 (by rw [List.length_replicate]; exact hn1); rw [List.length_replicate] at hx1; subst hx1; have HO1 := Lib.hid ho1; have HB1 := Lib.hid hb1; clear ho1 hb1))
   | (go_at_call 179; go_loud (refine (HPT.out _ HB1.out).mono ?_; rintro e w2 ⟨x2, rfl, hx2, hb2⟩; obtain ⟨vs, hv, hrr⟩ := hx2; have hvl := hrr.1; rw [List.length_map] at hvl; obtain ⟨A3, c3, rfl, -, -⟩ := hv.cells.open_; have HV := Lib.hid hv; have HRR := Lib.hid hrr; have HVL := Lib.hid hvl; have HB2 := Lib.hid (HB1.out.trans (hb2.mono HB1.out.size)); have HO2 := Lib.hid (HO1.out.below hb2); have hg2 : g < w1.heap.size := HO1.out.1.lt g rfl; clear hv hrr hvl hb2)))
  clear q0 q1 HPT
  have HVC := Lib.hid HV.out.cells
  go_loopw [7] (fun y wr => ∃ (k : Nat) (us : List Int), k <= vs.length /\ y = .int .i64 k /\ OwnInts wr W.heap.size tI (.slice (some ⟨g, 0, none⟩) n cap) us /\ Hid (Nl n us) /\ Chg g (g + 1) w2 wr /\ Below W.heap.size W wr) (fun y _ => vs.length - (intOf y).toNat)
  case atStart => exact ⟨0, _, Nat.zero_le _, rfl, HO2.out, ⟨List.length_replicate, fun z hz => by rw [List.eq_of_mem_replicate hz]; omega⟩, Chg.refl _ _ _, HB2.out⟩
  case round =>
   obtain ⟨k, us, hk, rfl, ho, HU, hch, hb⟩ := hrel
   rename World => wq
   clear HO1 HO2 HB1
   have HO := Lib.hid ho
   have HB := Lib.hid hb
   have HCH := Lib.hid hch
   have HKQ := Lib.hid (HKF.out.below hb HKF.out.lt)
   clear ho hb hch
   have hvn : vs.length <= 1000 := by rw [HVL.out]; exact HBR.out.1.1
   by_cases hlt : k < vs.length
   · obtain ⟨b, hbk⟩ : ∃ b, bs[k]? = some b := ⟨_, List.getElem?_eq_getElem (by rw [<- HVL.out]; exact hlt)⟩
     obtain ⟨u, hu⟩ : ∃ u, vs[k]? = some u := ⟨_, List.getElem?_eq_getElem hlt⟩
     have hne : ∀ bb, (Value.slice A3 vs.length c3).ownBlock = some bb -> bb ≠ g := fun bb hbb e => by
      have := HV.out.ge bb hbb
      omega
     have hvq : Own wq w1.heap.size tL (.slice A3 vs.length c3) vs := HV.out.of_block fun bb hbb => HCH.out.block bb (HV.out.lt bb hbb) (by have := HV.out.ge bb hbb; omega)
     obtain ⟨ad, n', c', he, hcell⟩ := hvq.cells.at_ hu
     simp only [Value.slice.injEq] at he
     obtain ⟨rfl, -, -⟩ := he
     have hrow0 := HRR.out.2 k u (up b) hu (by rw [List.getElem?_map, hbk]; rfl)
     have hrow : Ints wq u (up b) := (show OwnInts wq w1.heap.size tI u (up b) from ⟨hrow0.1.of_block fun bb hbb => HCH.out.block bb (hrow0.1.lt bb hbb) (by have := hrow0.1.ge bb hbb; omega), hrow0.2⟩).ints
     obtain ⟨db, hdb⟩ := HDN.out b (List.mem_of_getElem? hbk)
     have HST := Lib.hid (show ∀ X, Below wq.heap.size wq X -> Calls Tryz.prog 248 #[.agg #[.slice A1 n c1, .slice A2 n c2], u] X (fun e w' => ∃ x, e = .returned x /\ ∃ us, OwnInts w' wq.heap.size tI x us /\ Nl n us /\ Below wq.heap.size wq w') from fun X hX => by
      have h := IH.out X (.agg #[.slice A1 n c1, .slice A2 n c2]) u A Bs b db n ((HTA.out.below HB.out).below hX) HSQ.out HBLN.out hn1 hn8 (hrow.below hX) hdb (HBR.out.1.2 b (List.mem_of_getElem? hbk)) (HBR.out.2 b (List.mem_of_getElem? hbk))
      exact h.mono (by rintro e w5 ⟨x, rfl, us5, ho5, hn5, hb5⟩; exact ⟨x, rfl, us5, ho5.mono hX.size, hn5, hX.trans (hb5.mono hX.size)⟩))
     have HTM := Lib.hid (show ∀ X x ys, Below wq.heap.size wq X -> Ints X x ys -> Nl n ys -> Calls Tryz.prog 182 #[.slice A1 n c1, x] X (fun e w' => ∃ x, e = .returned x /\ ∃ us, OwnInts w' wq.heap.size tI x us /\ Nl n us /\ Below wq.heap.size wq w') from fun X x ys hX hx hy => by
      have h := s_l09TimesE X (.slice A1 n c1) x A ys ((HRA.out.below HB.out).below hX) hx hy.2 (fun zs hz => ⟨(HSQ.out.2 zs hz).2, by rw [(HSQ.out.2 zs hz).1, hy.1]; exact Nat.le_refl _⟩) (by rw [HSQ.out.1]; omega) (by rw [hy.1]; omega)
      rw [HSQ.out.1] at h
      exact h.mono (by rintro e w5 ⟨x, rfl, us5, ho5, hn5, hb5⟩; exact ⟨x, rfl, us5, ho5.mono hX.size, hn5, hX.trans (hb5.mono hX.size)⟩))
     have hki : (k : Int) < (vs.length : Int) := by omega
     have q0 : wq.cell? ⟨w.heap.size, 0, none⟩ = some (.slice A1 n c1) := HKQ.out.cell 0
     have q1 : wq.cell? ⟨w.heap.size, 1, none⟩ = some (.slice A2 n c2) := HKQ.out.cell 1
     obtain ⟨Au, cu, rfl, -, -, -⟩ := hrow.open_
     clear hbk hu hne hvq hrow hrow0 hdb
     go_upto_region 6 with fail
     go_cut [8] (fun y wx => ∃ ps, OwnInts wx wq.heap.size tI y ps /\ Nl n ps /\ Below wq.heap.size wq wx)
     case first =>
      go_region_law (first
       | (go_simp; go_at_call 248; (with_reducible refine ((HST.out _ ?_).mono ?_)); (first | exact Below.refl _ _ | exact (Below.refl _ _).drew); go_loud (rintro e w5 ⟨r5, rfl, us5, ho5, hn5, hb5⟩; have HO5 := Lib.hid ho5; have HN5 := Lib.hid hn5; have HB5 := Lib.hid hb5; have m1 : w5.cell? ⟨w.heap.size, 0, none⟩ = some (.slice A1 n c1) := (HKQ.out.below hb5 HKQ.out.lt).cell 0; have m2 : w5.cell? ⟨w.heap.size, 1, none⟩ = some (.slice A2 n c2) := (HKQ.out.below hb5 HKQ.out.lt).cell 1; clear ho5 hn5 hb5))
       | (go_simp; go_at_call 182; (with_reducible refine ((HTM.out _ _ us5 ?_ ?_ HN5.out).mono ?_)); (first | exact HB5.out | exact HB5.out.drew); (exact HO5.out.ints); go_loud (rintro e w6 ⟨r6, rfl, us6, ho6, hn6, hb6⟩; have HO6 := Lib.hid ho6; have HN6 := Lib.hid hn6; have HB6 := Lib.hid hb6; clear ho6 hn6 hb6)))
      all_goals
       go_wp2_with fail
       go_meet
       exact ⟨_, HO6.out, HN6.out, HB6.out⟩
     case rest =>
      obtain ⟨ps, hop, hnp, hbp⟩ := hcut
      obtain ⟨gp, capp, hpe, hgp⟩ := own_some1 hop (by rw [hnp.1]; exact hn1)
      rw [hnp.1] at hpe
      subst hpe
      have HOP := Lib.hid hop
      have HNP := Lib.hid hnp
      have HBP := Lib.hid hbp
      have hgq : g < wq.heap.size := HO.out.1.lt g rfl
      clear hop hnp hbp q0 q1 hcell
      go_upto_region 8 with fail
      go_loopw [9] (fun y wr => ∃ (j : Nat) (us1 : List Int), j <= n /\ y = .int .i64 j /\ OwnInts wr W.heap.size tI (.slice (some ⟨g, 0, none⟩) n cap) us1 /\ Hid (Nl n us1) /\ OwnInts wr wq.heap.size tI (.slice (some ⟨gp, 0, none⟩) n capp) ps /\ Chg g (g + 1) wc wr) (fun y _ => n - (intOf y).toNat)
      case atStart => exact ⟨0, us, Nat.zero_le _, rfl, HO.out.below HBP.out, HU.out, HOP.out, Chg.refl _ _ _⟩
      case round =>
       obtain ⟨j, us1, hj, rfl, ho, HU1, hop, hch⟩ := hrel
       rename World => wj
       have HO1 := Lib.hid ho
       have HOP1 := Lib.hid hop
       have HCH1 := Lib.hid hch
       clear ho hop hch
       by_cases hlj : j < n
       · obtain ⟨x, hx⟩ : ∃ x, us1[j]? = some x := ⟨_, List.getElem?_eq_getElem (by rw [HU1.out.1]; exact hlj)⟩
         obtain ⟨y, hy⟩ : ∃ y, ps[j]? = some y := ⟨_, List.getElem?_eq_getElem (by rw [HNP.out.1]; exact hlj)⟩
         have hxn := HU1.out.2 x (List.mem_of_getElem? hx)
         have hyn := HNP.out.2 y (List.mem_of_getElem? hy)
         obtain ⟨ady, ny, cy', hey, hcy⟩ := HOP1.out.1.cells.at_ (ints_get hy)
         simp only [Value.slice.injEq, Option.some.injEq] at hey
         obtain ⟨rfl, -, -⟩ := hey
         rw [addr_add] at hcy
         have HMU := Lib.hid (fun X => s_l01Mul x y X (by omega) (by omega) (by omega) (by omega))
         have hmb := nume_bd (x * y)
         generalize x * y % 10007 = xy at *
         obtain ⟨u0, hu0, hcx0, hfz, -, -, hst, hgw⟩ := Own.storeAt HO1.out.1 (k := j) (by rw [ints_len, HU1.out.1]; exact hlj) (.int .i64 xy)
         have hcx : wj.cell? ⟨g, j, none⟩ = some (.int .i64 x) := by rw [hcx0, <- hu0]; exact ints_get hx
         have HST2 := Lib.hid hst
         have HGW := Lib.hid (show wj.grownBy (wj.setCell ⟨g, j, none⟩ (.int .i64 xy)).drew (some g) from ⟨hgw.os, hgw.tape, hgw.output, hgw.size, hgw.block⟩)
         have HPG := Lib.hid (show gp ≠ g from by omega)
         have hji : (j : Int) < (n : Int) := by omega
         clear hx hy hxn hyn hu0 hcx0 hst hgw
         go_wp2_with fail
         go_still_tail 12, (by kernel_rfl)
         still_call ((HMU.out _).mono (by rintro e w' ⟨rfl, rfl⟩; exact ⟨rfl, rfl⟩))
         still_step
         refine wpStill_nil ?_
         all_goals
          go_wp2_with fail
          go_roundw
          case rel =>
           refine ⟨j + 1, us1.set j xy, by omega, by go_num, ⟨?_, fun z hz => ?_⟩, nl_setE HU1.out hmb, ⟨?_, HOP1.out.2⟩, ?_⟩
           · have h := HST2.out
             rw [ints_setE] at h
             exact h
           · rcases List.mem_or_eq_of_mem_set hz with hz | rfl
             · exact HO1.out.2 z hz
             · unfold In64; omega
           · exact HOP1.out.1.kept HGW.out (.inr (by show some gp ≠ some g; intro e; injection e with e; exact HPG.out e))
           · exact HCH1.out.trans ((chg_ofE HGW.out))
          case measure => simp [intOf]; omega
       · have hjn : j = n := by omega
         subst hjn
         go_wp2_with fail
         go_roundw
         case rel =>
          have hc2 : Chg g (g + 1) w2 wj := HCH.out.trans ((Chg.of_below HBP.out g (g + 1)).trans HCH1.out)
          refine ⟨k + 1, us1, by omega, by go_num, HO1.out, HU1.out, hc2, ?_⟩
          have hb := HB.out.trans (HBP.out.mono HB.out.size)
          exact HCH1.out.below hb (HO.out.1.ge g rfl) hb.size
         case measure => simp [intOf]; omega
   · have hkl : k = vs.length := by omega
     subst hkl
     go_wp2_with fail
     go_ret
     exact ⟨_, rfl, us, HO.out.mono HBW.out.size, HU.out, HBW.out.trans (HB.out.mono HBW.out.size)⟩
set_option maxHeartbeats 4000000 in
theorem s_l09Weight {A : List (List Int)} {Bs : List Int} {n : Nat} (w : World) (v vt : Value) (t : List Nat) (r : Nat) (hta : TabArg w v A Bs) (hsq : Sqm n n A) (hbs : Nl n Bs) (hn1 : 1 <= n) (hn8 : n <= 8) (ht : Ints w vt (up t)) (hr : denO 9 t = some r) (htl : t.length <= 1000) (hl : ∀ l ∈ t, l <= 1000000) :
  Calls Tryz.prog 215 #[v, vt] w fun e w' => ∃ z, e = .returned (.int .i64 z) /\ (0 <= z /\ z <= 10006) /\ Below w.heap.size w w' := by
 obtain ⟨va1, vb1, rfl, ha1, ha2⟩ := hta
 obtain ⟨A1, c1, rfl, -, -, -⟩ := ha1.open_
 obtain ⟨A2, c2, rfl, -, -, -⟩ := ha2.open_
 rw [hbs.1] at ha2 ⊢
 rw [hsq.1] at ha1 ⊢
 obtain ⟨W, hW⟩ : ∃ W, W = w.alloc (.cells #[.slice A1 n c1, .slice A2 n c2] tTb) := ⟨_, rfl⟩
 have hbw : Below w.heap.size w W := by rw [hW]; exact below1 w _
 have HBW := Lib.hid hbw
 have HKF := Lib.hid (show Blk W w.heap.size tTb #[.slice A1 n c1, .slice A2 n c2] from by rw [hW]; exact Blk.new _ _ _)
 have HST := Lib.hid (show ∀ X, Below W.heap.size W X -> Calls Tryz.prog 248 #[.agg #[.slice A1 n c1, .slice A2 n c2], vt] X (fun e w' => ∃ x, e = .returned x /\ ∃ us, OwnInts w' W.heap.size tI x us /\ Nl n us /\ Below W.heap.size W w') from fun X hX => by
  have h := s_l09Stages 9 X (.agg #[.slice A1 n c1, .slice A2 n c2]) vt A Bs t r n ((show TabArg W (.agg #[.slice A1 n c1, .slice A2 n c2]) A Bs from ⟨_, _, rfl, ha1.below hbw, ha2.below hbw⟩).below hX) hsq hbs.1 hn1 hn8 ((ht.below hbw).below hX) hr htl hl
  exact h.mono (by rintro e w5 ⟨x, rfl, us5, ho5, hn5, hb5⟩; exact ⟨x, rfl, us5, ho5.mono hX.size, hn5, hX.trans (hb5.mono hX.size)⟩))
 have HDT := Lib.hid (show ∀ X x ys, Below W.heap.size W X -> Ints X x ys -> Nl n ys -> Calls Tryz.prog 230 #[.slice A2 n c2, x] X (fun e w' => ∃ z, e = .returned (.int .i64 z) /\ (0 <= z /\ z <= 10006) /\ Below W.heap.size W w') from fun X x ys hX hx hy => by
  have h := s_l01DotE X (.slice A2 n c2) x Bs ys ((ha2.below hbw).below hX) hx hbs.2 hy.2 (by rw [hbs.1, hy.1]; exact Nat.le_refl _) (by rw [hy.1]; omega)
  exact h.mono (by rintro e w5 ⟨z, rfl, hz, k, rfl⟩; exact ⟨z, rfl, hz, below_drewN hX k⟩))
 obtain ⟨At, ct, rfl, -, -, -⟩ := ht.open_
 have q0 : W.cell? ⟨w.heap.size, 0, none⟩ = some (.slice A1 n c1) := HKF.out.cell 0
 have q1 : W.cell? ⟨w.heap.size, 1, none⟩ = some (.slice A2 n c2) := HKF.out.cell 1
 clear ht hr hl ha1 ha2 hsq hbs hbw
 go_enter Tryz.func215, Tryz.ntmps215
 go_upto_region 1 with fail
 rw [<- hW]
 clear hW
 go_region_law (first
  | (go_simp; go_at_call 248; (with_reducible refine ((HST.out _ ?_).mono ?_)); (first | exact Below.refl _ _ | exact (Below.refl _ _).drew); go_loud (rintro e w5 ⟨r5, rfl, us5, ho5, hn5, hb5⟩; have HO5 := Lib.hid ho5; have HN5 := Lib.hid hn5; have HB5 := Lib.hid hb5; have m1 : w5.cell? ⟨w.heap.size, 0, none⟩ = some (.slice A1 n c1) := (HKF.out.below hb5 HKF.out.lt).cell 0; have m2 : w5.cell? ⟨w.heap.size, 1, none⟩ = some (.slice A2 n c2) := (HKF.out.below hb5 HKF.out.lt).cell 1; clear ho5 hn5 hb5))
  | (go_simp; go_at_call 230; (with_reducible refine ((HDT.out _ _ us5 ?_ ?_ HN5.out).mono ?_)); (first | exact HB5.out | exact HB5.out.drew); (exact HO5.out.ints); go_loud (rintro e w6 ⟨z, rfl, hz, hb6⟩; have HZ := Lib.hid hz; have HB6 := Lib.hid hb6; clear hz hb6)))
 all_goals
  go_wp2_with fail
  go_ret
  exact ⟨_, rfl, HZ.out, HBW.out.trans (HB6.out.mono HBW.out.size)⟩
structure OutS (B : Nat) (w1 w : World) (o : Value) : Prop where
 le : w1.heap.size <= w.heap.size
 old : ∀ k, B < k -> k < w1.heap.size -> w.heap[k]? = w1.heap[k]?
 at_ : ∀ b, o.ownBlock = some b -> b = B \/ w1.heap.size <= b
theorem OutS.rows {B : Nat} {w1 w : World} {o v : Value} {xss : List (List Int)} (h : OutS B w1 w o) (hx : LA w1 (B + 1) v xss) : Rows w v xss := by
 obtain ⟨vs, h1, h2, -⟩ := hx
 refine ⟨vs, (h1.of_block fun b hb => h.old b (by have := h1.ge b hb; omega) (h1.lt b hb)).cells, h2.1, fun k u zs hu hz => ?_⟩
 have ho := h2.2 k u zs hu hz
 exact (show OwnInts w (B + 1) tI u zs from ⟨ho.1.of_block fun b hb => h.old b (by have := ho.1.ge b hb; omega) (ho.1.lt b hb), ho.2⟩).ints
theorem OutS.next {B : Nat} {w1 w w5 w6 : World} {o o' : Value} (h : OutS B w1 w o) (hb : Below w.heap.size w w5) (hg : Grow w5 w6 o o') : OutS B w1 w6 o' := by
 have hs := hg.1.size
 have hb5 := hb.size
 have hl := h.le
 refine ⟨by omega, fun k h1 h2 => ?_, fun b hb' => ?_⟩
 · rw [hg.1.block k (by omega) (fun e => by rcases h.at_ k e.symm with h3 | h3 <;> omega), hb.block k (by omega)]
   exact h.old k h1 h2
 · rcases hg.2 with h3 | ⟨g, h3, h4⟩
   · rw [h3] at hb'; exact h.at_ b hb'
   · rw [h3] at hb'; injection hb' with hb'; subst hb'; exact .inr (by omega)
set_option maxHeartbeats 8000000 in
theorem s_l09CharacterE {A : List (List Int)} {Bs : List Int} {n : Nat} (w : World) (v : Value) (hta : TabArg w v A Bs) (hsq : Sqm n n A) (hbs : Nl n Bs) (hn1 : 1 <= n) (hn8 : n <= 8) :
  Calls Tryz.prog 168 #[v] w fun e w' => ∃ x, e = .returned x /\ ∃ us, OwnInts w' w.heap.size tI x us /\ Nl 38 us /\ Below w.heap.size w w' := by
 obtain ⟨va1, vb1, rfl, ha1, ha2⟩ := hta
 obtain ⟨A1, c1, rfl, -, -, -⟩ := ha1.open_
 obtain ⟨A2, c2, rfl, -, -, -⟩ := ha2.open_
 obtain ⟨W, hW⟩ : ∃ W, W = w.alloc (.cells #[.slice A1 A.length c1, .slice A2 Bs.length c2] tTb) := ⟨_, rfl⟩
 have hbw : Below w.heap.size w W := by rw [hW]; exact below1 w _
 have HBW := Lib.hid hbw
 have HKF := Lib.hid (show Blk W w.heap.size tTb #[.slice A1 A.length c1, .slice A2 Bs.length c2] from by rw [hW]; exact Blk.new _ _ _)
 have HWG := Lib.hid (fun X vt i (hX : Below W.heap.size W X) (hi : i < 37) (hv : Ints X vt (up (tr i))) => by
  obtain ⟨d, hd, -⟩ := den_of (tr_mem hi)
  have h6 := T6n_at (tr_mem hi)
  exact s_l09Weight X (.agg #[.slice A1 A.length c1, .slice A2 Bs.length c2]) vt (tr i) d ((show TabArg W (.agg #[.slice A1 A.length c1, .slice A2 Bs.length c2]) A Bs from ⟨_, _, rfl, ha1.below hbw, ha2.below hbw⟩).below hX) hsq hbs hn1 hn8 hv hd (by omega) (fun l hl => by have := h6.2.2.2 l hl; omega))
 have OL := Lib.hid (show OwnInts (W.alloc (.cells #[.int .i64 1] tI)) W.heap.size tI (.slice (some ⟨W.heap.size, 0, none⟩) 1 1) [1] from ⟨by simpa [ints] using own_lit W tI [.int .i64 1] (by simp [maxLen]), by intro z hz; simp at hz; subst hz; unfold In64; omega⟩)
 clear ha1 ha2 hsq hbs hbw
 go_enter Tryz.func168, Tryz.ntmps168
 go_upto_region 1 with fail
 rw [<- hW]
 clear hW
 go_wp2_with (go_at_call 61; go_loud (refine (s_l03All _ 6 (by omega)).mono ?_; rintro e w1 ⟨x1, rfl, hx1, hb1⟩; rw [show allG treesN 6 = T6n from rfl] at hx1; obtain ⟨A3, c3, he1, -, -, -⟩ := hx1.rows.open_; rw [List.length_map, T6n_len] at he1; subst he1; have HX1 := Lib.hid (show LA w1 (W.heap.size + 1) (.slice A3 37 c3) (T6n.map up) from by have h := hx1; simpa using h); have HO1 := Lib.hid (OL.out.below hb1); have HSZ1 := Lib.hid (show W.heap.size + 1 <= w1.heap.size from by have h := hb1.size; simpa using h); have HB1 := Lib.hid ((below1 W (.cells #[.int .i64 1] tI)).trans (hb1.mono (below1 W (.cells #[.int .i64 1] tI)).size)); clear hx1 hb1))
 clear OL
 go_loopw [3, 5] (fun o y wr => ∃ (k : Nat) (us : List Int), k <= 37 /\ y = .int .i64 k /\ OwnInts wr W.heap.size tI o us /\ Hid (Nl (k + 1) us) /\ Below W.heap.size W wr /\ Hid (OutS W.heap.size w1 wr o)) (fun _ y _ => 37 - (intOf y).toNat)
 case atStart => exact ⟨0, [1], Nat.zero_le _, rfl, HO1.out, ⟨rfl, fun z hz => by simp at hz; omega⟩, HB1.out, ⟨Nat.le_refl _, fun _ _ _ => rfl, fun b hb => .inl (by simp [Value.ownBlock] at hb; exact hb.symm)⟩⟩
 case round =>
  obtain ⟨k, us, hk, rfl, ho, HU, hb, HOS⟩ := hrel
  rename World => wq
  clear HO1 HB1
  obtain ⟨Ao, co, heo, -, -⟩ := ho.1.cells.open_
  rw [ints_len] at heo
  subst heo
  have HO := Lib.hid ho
  have HB := Lib.hid hb
  have HKQ := Lib.hid (HKF.out.below hb HKF.out.lt)
  clear ho hb
  by_cases hlt : k < 37
  · obtain ⟨ad, At, ct, t, rfl, hti, htr, hc⟩ := (HOS.out.rows HX1.out).tree hlt
    have HT := Lib.hid (show Ints wq (.slice At t.length ct) (up (tr k)) from by rw [tr_at hti]; exact htr)
    have hki : (k : Int) < 37 := by omega
    have q0 : wq.cell? ⟨w.heap.size, 0, none⟩ = some (.slice A1 A.length c1) := HKQ.out.cell 0
    have q1 : wq.cell? ⟨w.heap.size, 1, none⟩ = some (.slice A2 Bs.length c2) := HKQ.out.cell 1
    have hul : us.length <= 1000 := by rw [HU.out.1]; omega
    clear hti htr
    go_upto_region 6 with fail
    go_region_law (first
     | (go_simp; go_at_call 215; (with_reducible refine ((HWG.out _ _ k ?_ hlt ?_).mono ?_)); (first | exact HB.out | exact HB.out.drew); (first | exact HT.out | exact HT.out.below (Below.refl _ _).drew); go_loud (rintro e w5 ⟨z, rfl, hz, hb5'⟩; have hb5 : Below wq.heap.size wq w5 := (by exact below_of_drew hb5'); have HZ := Lib.hid hz; have HB5 := Lib.hid hb5; clear hz hb5 hb5'))
     | (refine step_app1 T_int (B := W.heap.size) (W := w5) (u := .int .i64 z) (vs := ints us) (HO.out.1.below HB5.out) (by rw [ints_len]; omega) (by have h1 := HB.out.size; have h2 := HB5.out.size; omega) (by rfl) rfl (by rfl) (by rfl) (by rfl) ?_; intro v6 w6 hown6 hgr6))
    all_goals
     have HN6 := Lib.hid hown6
     have HB6 := Lib.hid (hgr6.below (HB.out.trans (HB5.out.mono HB.out.size)) (Nat.le_trans HB.out.size HB5.out.size) HO.out.1.ge)
     have HC6 := Lib.hid (HOS.out.next HB5.out hgr6)
     clear hown6 hgr6 q0 q1 hc
     go_wp2_with fail
     go_roundw
     case rel =>
      refine ⟨k + 1, us ++ [z], by omega, by go_num, ⟨by simpa [ints] using HN6.out, fun y hy => ?_⟩, HU.out.snoc HZ.out, HB6.out, HC6.out⟩
      rcases List.mem_append.1 hy with hy | hy
      · exact HO.out.2 y hy
      · simp at hy; subst hy; have := HZ.out; unfold In64; omega
     case measure => simp [intOf]; omega
  · have hk37 : k = 37 := by omega
    subst hk37
    go_wp2_with fail
    go_ret
    exact ⟨_, rfl, us, HO.out.mono HBW.out.size, HU.out, HBW.out.trans (HB.out.mono HBW.out.size)⟩
structure Fill2 (w0 w : World) (p : Nat) (va vb : Value) (vs : List Value) (rows : List (List Int)) (Bs : List Int) : Prop where
 blk : Blk w p 37 #[va, vb]
 own : Own w (p + 1) tL va vs
 rows : RowsOwn w (p + 1) w.heap.size tI vs rows
 ws : OwnInts w (p + 1) tI vb Bs
 ap : ∀ (k : Nat) (u : Value), vs[k]? = some u -> Apart u vb
 below : Below w0.heap.size w0 w
section
variable {w0 w w' w1 : World} {p : Nat} {va vb v1 r : Value} {vs : List Value} {rows : List (List Int)} {zs Bs : List Int} {z : Int}
end
structure Two (w : World) (N : Nat) (va vb : Value) (vs : List Value) (rows : List (List Int)) (Bs : List Int) : Prop where
 own : Own w N tL va vs
 rows : RowsOwn w N w.heap.size tI vs rows
 ws : OwnInts w N tI vb Bs
 ap : ∀ (k : Nat) (u : Value), vs[k]? = some u -> Apart u vb
section
variable {w w' w1 : World} {N p q : Nat} {va vb v1 r : Value} {vs : List Value} {rows : List (List Int)} {zs Bs : List Int} {z : Int}
theorem Two.kept (h : Two w N va vb vs rows Bs) (hc : Chg p q w w') (hq : q <= N) : Two w' N va vb vs rows Bs :=
 ⟨h.own.of_block fun b hb => hc.block b (h.own.lt b hb) (.inr (Nat.le_trans hq (h.own.ge b hb))), (h.rows.mono (Nat.le_refl _) hc.size).kept hc (.inr hq), ⟨h.ws.1.of_block fun b hb => hc.block b (h.ws.1.lt b hb) (.inr (Nat.le_trans hq (h.ws.1.ge b hb))), h.ws.2⟩, h.ap⟩
theorem Two.tab (h : Two w N va vb vs rows Bs) : OT w N w.heap.size (.agg #[va, vb]) rows Bs :=
 ⟨va, vb, vs, rfl, h.own, h.own.lt, h.rows, ⟨h.ws, h.ws.1.lt⟩, h.ap⟩
theorem Two.addA (h : Two w N va vb vs rows Bs) (hr : OI w N w.heap.size tI r zs) (hap : ∀ (k : Nat) (u : Value), vs[k]? = some u -> Apart u r) (hrb : Apart r vb)
  (hown : Own w1 N tL v1 (vs ++ [r])) (hgr : Grow w w1 va v1) : Two w1 N v1 vb (vs ++ [r]) (rows ++ [zs]) Bs := by
 have hs := hgr.1.size
 have hR := h.rows.snoc hr hap
 have hR3 := hR.other hgr.1 (fun j u hu => by
  have hj := (List.getElem?_eq_some_iff.1 hu).1
  have hx : (rows ++ [zs])[j]? = some ((rows ++ [zs])[j]'(by rw [<- hR.1]; exact hj)) := List.getElem?_eq_getElem _
  exact Own.ne_of_type (hR.2.1 j u _ hu hx).1.1 h.own (by decide))
 have hw := h.ws.kept hgr.1 (Own.ne_of_type h.ws.1 h.own (by decide))
 refine ⟨hown, hR3.mono (Nat.le_refl _) hs, hw, ?_⟩
 intro k u hu
 by_cases hk : k < vs.length
 · rw [List.getElem?_append_left hk] at hu
   exact h.ap k u hu
 · have hj := (List.getElem?_eq_some_iff.1 hu).1
   simp at hj
   have : k = vs.length := by omega
   subst this
   simp at hu
   subst hu
   exact hrb
end
section
variable {w0 w w' w1 : World} {p : Nat} {va vb v1 r : Value} {vs : List Value} {rows : List (List Int)} {zs Bs : List Int}
end
section
variable {w0 w w9 : World} {p : Nat} {va vb v6 v9 : Value} {vs : List Value} {rows : List (List Int)} {Bs : List Int}
end
end Go.Proofs.YtofabikjjkapmaaGreat
