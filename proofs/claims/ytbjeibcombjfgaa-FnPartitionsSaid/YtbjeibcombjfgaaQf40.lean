/- The law FnPartitions, walked. -/
import Derived.Test.YtbjeibcombjfgaaQf38
import Derived.Test.YtbjeibcombjfgaaQf39
import Derived.Test.YtbjeibcombjfgaaQf25
set_option maxRecDepth 100000
set_option linter.unusedVariables false
set_option linter.unusedSimpArgs false
namespace Go.Proofs.Ytbjeibcombjfgaa
open Go.RowKit Go.Sort Go.Shelf

theorem ByB.belowP {w w' : World} {B n : Nat} {A : Option Addr} (h : ByB w B A n) (hB : B ≤ w.heap.size) (hb : Below B w w') : ByB w' B A n := fun k hk => by
  obtain ⟨ad, z, rfl, h1, h2, h3, h4, h5⟩ := h k hk
  exact ⟨ad, z, rfl, h1, Nat.lt_of_lt_of_le h2 hb.size, h3, h4, by rw [hb.cell (by rw [block_add]; exact h1)]; exact h5⟩
theorem ByB.monoP {w : World} {B B' n : Nat} {A : Option Addr} (h : ByB w B A n) (hB : B ≤ B') : ByB w B' A n := fun k hk => by
  obtain ⟨ad, z, rfl, h1, h2⟩ := h k hk
  exact ⟨ad, z, rfl, Nat.lt_of_lt_of_le h1 hB, h2⟩
/-- an element of a list of partitions -/
theorem sls_at {w : World} {B g n cap i c : Nat} {G : List (PK × Nat)} {P : List (List Nat)} {S : List Nat} (h : SLs ePc tPt w B (.slice (some ⟨g, 0, none⟩) n cap) G) (hx : G[i]? = some ((P, S), c)) :
    ∃ u cu s cs, w.cell? ⟨g, i * 3, none⟩ = some (.slice u P.length cu) ∧ w.cell? ⟨g, i * 3 + 1, none⟩ = some (.slice s S.length cs) ∧ w.cell? ⟨g, i * 3 + 2, none⟩ = some (.int .i64 (c : Nat)) ∧ Rows w (.slice u P.length cu) (P.map up) ∧ Ints w (.slice s S.length cs) (up S) := by
  obtain ⟨css, ho, he⟩ := h
  obtain ⟨cc, hcc, hd⟩ := he.at_ hx
  obtain ⟨u, s, rfl, hu, hs⟩ := hd
  have hu := (show LA w B u (P.map up) from hu).rows
  have hs := (show OwnInts w B tI s (up S) from hs).ints
  have k0 := OwnK.cellAt (k := 3) ho hcc (j := 0) rfl
  have k1 := OwnK.cellAt (k := 3) ho hcc (j := 1) rfl
  have k2 := OwnK.cellAt (k := 3) ho hcc (j := 2) rfl
  rw [Nat.add_zero] at k0
  obtain ⟨A1, c1, rfl, -, -, -⟩ := rowsAt hu
  obtain ⟨A2, c2, rfl, -, -, -⟩ := hs.open_
  rw [up_len] at k1 hs
  exact ⟨A1, c1, A2, c2, k0, k1, k2, hu, hs⟩
theorem sls_open {w : World} {B : Nat} {x : Value} {G : List (PK × Nat)} (h : SLs ePc tPt w B x G) (hne : G ≠ []) : ∃ g cap, x = .slice (some ⟨g, 0, none⟩) G.length cap := by
  obtain ⟨css, ho, he⟩ := h
  rcases OwnK.cases (k := 3) ho with ⟨-, h⟩ | ⟨g, cap, cur, h, -⟩
  · have := he.1
    rw [h] at this
    exact absurd (List.eq_nil_of_length_eq_zero this.symm) hne
  · exact ⟨g, cap, by rw [h, he.1]⟩
theorem cntS_take {α : Type} {G : List (α × Nat)} {i : Nat} {x : α × Nat} (h : G[i]? = some x) : cntS (G.take (i + 1)) = cntS (G.take i) + x.2 := by
  rw [List.take_add_one, h, cntS_append]
  rfl
theorem cntS_le {α : Type} (G : List (α × Nat)) (i : Nat) : cntS (G.take i) ≤ cntS G := by
  have h := cntS_append (G.take i) (G.drop i)
  rw [List.take_append_drop] at h
  omega
theorem lenS_append (a b : List (List Nat)) : lenS (a ++ b) = lenS a + lenS b := by
  induction a with
  | nil => simp [lenS]
  | cons x a ih => simp only [List.cons_append, lenS, ih]; omega
theorem lenS_take {P : List (List Nat)} {i : Nat} {x : List Nat} (h : P[i]? = some x) : lenS (P.take (i + 1)) = lenS (P.take i) + x.length := by
  rw [List.take_add_one, h, lenS_append]
  simp [lenS]
theorem lenS_le (P : List (List Nat)) (i : Nat) : lenS (P.take i) ≤ lenS P := by
  have h := lenS_append (P.take i) (P.drop i)
  rw [List.take_append_drop] at h
  omega
theorem map_up_dec (a b : List (List Nat)) : decide (a.map up = b.map up) = decide (a = b) := by
  by_cases h : a = b
  · rw [h, decide_eq_true rfl, decide_eq_true rfl]
  · rw [decide_eq_false h, decide_eq_false]
    intro e
    refine h ?_
    exact (List.map_inj_right (fun x y e => up_inj e)).1 e
/-- what is to know of a tree that is taken: the masks -/
theorem mask_of {zs : List Int} {n t : List Nat} (h : TakenT zs n t) (ht : isT zs = true) {k : Nat} (hk : k < 2 ^ (t.length - 1)) :
    ∃ (pcs : List (List Nat)) (r : List Nat) (i c : Nat), maskC zs ((2 * k : Nat) : Int) = 0 ∧ pcOf zs ((2 * k : Nat) : Int) = pcs.map up ∧ skOf zs ((2 * k : Nat) : Int) = up r ∧ (prG t)[i]? = some ((pcs, r), c) := by
  have hz : zs.length = t.length := by rw [h.zs, up_len, h.len]
  have h2 := two_pow h.t0 hk
  have hm : maskC zs ((2 * k : Nat) : Int) = 0 := by
    unfold maskC
    rw [if_pos ht, if_pos]
    unfold maskB
    simp only [Bool.and_eq_true, decide_eq_true_eq, beq_iff_eq]
    refine ⟨by omega, ?_, by omega⟩
    rw [hz]
    have e : ((2 : Int) ^ t.length) = ((2 ^ t.length : Nat) : Int) := by simp
    rw [e]
    omega
  obtain ⟨n', t', k', hT⟩ := taken hm
  have hn : n' = n := up_inj (by rw [← hT.zs, h.zs])
  subst hn
  have htt : t' = t := by have := hT.can; rw [h.can] at this; injection this with this; exact this.symm
  subst htt
  have hkk : k' = 2 * k := by have := hT.m; omega
  subst hkk
  obtain ⟨pcs, r, hpc, hsk, hpn⟩ := prt_parts h.tlv h.t8 h.tcan h2.1 h2.2
  obtain ⟨x, hx, hxe⟩ := prG_all (t := t') hk
  obtain ⟨i, hi, hxi⟩ := List.getElem_of_mem hx
  refine ⟨srtB pcs, r, i, x.2, hm, pcOf_eq hT hm hpc, skOf_eq hT hm hsk, ?_⟩
  rw [List.getElem?_eq_getElem hi, hxi]
  have : x.1 = (srtB pcs, r) := hxe.trans hpn
  rw [← this]
theorem pow63 {l : Nat} (h : l ≤ 8) : wrap64 ((2 : Int) ^ l) = ((2 ^ l : Nat) : Int) ∧ IntKind.i64.wrap ((2 : Int) ^ l) = ((2 ^ l : Nat) : Int) := by
  have e : ((2 : Int) ^ l) = ((2 ^ l : Nat) : Int) := by simp
  have hb : 2 ^ l ≤ 256 := Nat.le_trans (Nat.pow_le_pow_right (by omega) h) (by decide)
  rw [e]
  generalize 2 ^ l = m at hb
  exact ⟨w64_in' _ (by omega), IntWalk.i64_in _ (by omega)⟩

set_option maxHeartbeats 64000000 in
theorem law_Partitions (w : World) (v : Value) (n : Nat) (h : Bts w v n) :
    Calls Try.prog 11 #[v] w fun e w' => e = .returned (.bool true) ∧ Below w.heap.size w w' := by
  obtain ⟨A, c, rfl, hb⟩ := h
  have HBG := Lib.hid (l_big w A n c)
  by_cases h4 : 4096 < n
  · have hd : decide (4096 < n) = true := by simp [h4]
    rw [hd] at HBG
    clear hd h4 hb
    go_enter Try.func11, Try.ntmps11
    go_wp2_with (go_at_call 12; refine HBG.out.mono ?_; rintro e w0 ⟨rfl, rfl⟩)
    go_ret
    exact ⟨rfl, Below.refl _ _⟩
  · have hd : decide (4096 < n) = false := by simp [h4]
    rw [hd] at HBG
    have HDR := Lib.hid (s_DrawPartitionsOf w A n c hb (by omega))
    have HBY := Lib.hid hb
    have hn4 : n ≤ 1000000 := by omega
    clear hd h4 hb
    go_enter Try.func11, Try.ntmps11
    go_upto_region 4 with (first
      | (go_at_call 12; refine HBG.out.mono ?_; rintro e w0 ⟨rfl, rfl⟩)
      | (go_at_call 52; go_loud (refine HDR.out.mono ?_; rintro e w1 ⟨x, zs, rfl, hz, hb1⟩; obtain ⟨Az, cz, rfl, -, -, -⟩ := hz.open_; have HZ1 := Lib.hid hz; have HB1 := Lib.hid hb1; clear hz hb1)))
    clear HBG HDR
    go_upto_region 6 with (first
      | (go_at_call 53; go_loud (refine (i_PartitionsOf w1 _ zs HZ1.out).mono ?_; rintro e w2 ⟨x2, rfl, hx2, hb2⟩; have HX2 := Lib.hid hx2; have HB2 := Lib.hid hb2; clear hx2 hb2))
      | (go_at_call 54; go_loud (refine (s_PartitionsOf w2 _ zs (HZ1.out.below HB2.out)).mono ?_; rintro e w3 ⟨x3, rfl, hx3, hb3⟩; have HX3 := Lib.hid hx3; have HX2 := Lib.hid (HX2.out.below hb3); have HB3 := Lib.hid (HB2.out.trans (hb3.mono HB2.out.size)); clear hx3 hb3)))
    have HBW := Lib.hid (HB1.out.trans (HB3.out.mono HB1.out.size))
    have HZ := Lib.hid (HZ1.out.below HB3.out)
    clear HZ1 HB1 HB2 HB3
    cases ht : isT zs with
    | false =>
      have hc : ptC zs = 1 := by simp [ptC, ht]
      have hr : ptR zs = [] := by simp [ptR, ht]
      rw [hr] at HX2 HX3
      obtain ⟨A2, c2, rfl, -, -⟩ := HX2.out.open_
      obtain ⟨A3, c3, rfl, -, -⟩ := HX3.out.open_
      rw [hc]
      simp only [List.length_nil]
      clear hc hr ht
      go_wp2_with fail
      go_loopw [8] (fun x wr => x = .int .i64 0 ∧ wr = w3) (fun x _ => 0)
      case atStart => exact ⟨rfl, rfl⟩
      case round =>
        obtain ⟨rfl, rfl⟩ := hrel
        go_wp2_with fail
        go_ret
        exact ⟨rfl, HBW.out⟩
    | true =>
      obtain ⟨nn, t, hT⟩ := takenT ht
      have hc : ptC zs = 0 := by simp [ptC, ht]
      rw [ptR_eq hT ht] at HX2 HX3
      rw [hc]
      have hzl : zs.length = t.length := by rw [hT.zs, up_len, hT.len]
      have ht0 := hT.t0
      have ht8 := hT.t8
      have HCN := Lib.hid (prG_cnt t)
      have HPF := Lib.hid (prG_F hT.tlv hT.t8 hT.tcan)
      have HMK := Lib.hid (fun k (hk : k < 2 ^ (t.length - 1)) => mask_of hT ht hk)
      have hpp : 1 ≤ 2 ^ (t.length - 1) := Nat.one_le_two_pow
      have hpq : 2 ^ (t.length - 1) ≤ 128 := Nat.le_trans (Nat.pow_le_pow_right (by omega) (show t.length - 1 ≤ 7 by omega)) (by decide)
      obtain ⟨hsh1, hsh2⟩ := pow63 (l := t.length - 1) (by omega)
      clear hc hT ht
      generalize prG t = G at *
      obtain ⟨T, hTE⟩ : ∃ T, T = 2 ^ (t.length - 1) := ⟨_, rfl⟩
      rw [← hTE] at hsh1 hsh2 hpp hpq HCN HMK
      have HTE := Lib.hid hTE
      clear hTE
      have hne : G ≠ [] := fun e => by have := HCN.out; rw [e] at this; simp [cntS] at this; omega
      obtain ⟨g2, cap2, rfl⟩ := sls_open HX2.out hne
      obtain ⟨g3, cap3, rfl⟩ := sls_open HX3.out hne
      have hgl : G.length ≤ 9223372036854775807 := by obtain ⟨_, _, -, h1, h2⟩ := HX2.out.open_; omega
      obtain ⟨l, hl⟩ : ∃ l, l = t.length - 1 := ⟨_, rfl⟩
      rw [← hl] at hsh1 hsh2
      have tl1 : -9223372036854775808 ≤ (zs.length : Int) - 1 ∧ (zs.length : Int) - 1 ≤ 9223372036854775807 := by omega
      have tl2 : (zs.length : Int) - 1 = (l : Int) := by omega
      have hwl1 := (w64_dr _ tl1).trans tl2
      have hwl2 := (wrap_i64 _ tl1).trans tl2
      have hl63 : (l : Int) < 64 := by omega
      have hl0 : (0 : Int) ≤ (l : Int) := by omega
      have HZL := Lib.hid hzl
      clear hne hl tl1 tl2 hzl
      go_wp2_with fail
      go_loopw [8] (fun x wr => ∃ i q : Nat, i ≤ G.length ∧ x = .int .i64 (i : Nat) ∧ wr = w3.drewN q) (fun x _ => G.length - (intOf x).toNat)
      case atStart => exact ⟨0, 0, Nat.zero_le _, rfl, rfl⟩
      case round =>
        obtain ⟨i, q, hi, rfl, rfl⟩ := hrel
        by_cases hlt : i < G.length
        · obtain ⟨⟨⟨P, S⟩, c1⟩, hx⟩ : ∃ x, G[i]? = some x := ⟨_, List.getElem?_eq_getElem hlt⟩
          obtain ⟨u, cu, s, cs, a0, a1, a2, hu, hs⟩ := sls_at HX2.out hx
          obtain ⟨u', cu', s', cs', b0, b1, b2, hu', hs'⟩ := sls_at HX3.out hx
          have HLR := Lib.hid (fun m => l_likeRows5 (w3.drewN m) _ _ _ _ (hu.drewN m) (hu'.drewN m))
          have HLI := Lib.hid (fun m => l_likeInts (w3.drewN m) _ _ _ _ (hs.drewN m) (hs'.drewN m))
          simp only [show decide (P.map up = P.map up) = true from decide_eq_true rfl] at HLR
          simp only [show decide (up S = up S) = true from decide_eq_true rfl] at HLI
          have hki : (i : Int) < (G.length : Int) := by omega
          clear hu hs hu' hs' hx
          go_wp2_with fail
          go_quiet ((first
            | (go_at_call 55; exact quiet_more (HLR.out _))
            | (go_at_call 36; exact quiet_more (HLI.out _))))
          go_wp2_with fail
          go_roundw
          case rel => exact ⟨i + 1, _, by omega, by go_num, rfl⟩
          case measure => simp [intOf]; omega
        · have hki : ¬ (i : Int) < (G.length : Int) := by omega
          go_wp2_with fail
          go_loopw [9, 10] (fun s x wr => ∃ i q : Nat, i ≤ G.length ∧ x = .int .i64 (i : Nat) ∧ s = .int .i64 ((cntS (G.take i) : Nat) : Int) ∧ wr = w3.drewN q) (fun _ x _ => G.length - (intOf x).toNat)
          case atStart => exact ⟨0, _, Nat.zero_le _, rfl, rfl, rfl⟩
          case round =>
            obtain ⟨i, q, hi, rfl, rfl, rfl⟩ := hrel
            by_cases hlt2 : i < G.length
            · obtain ⟨⟨⟨P, S⟩, c1⟩, hx⟩ : ∃ x, G[i]? = some x := ⟨_, List.getElem?_eq_getElem hlt2⟩
              have hpf := HPF.out _ (List.mem_of_getElem? hx)
              have hps : lenS P = zs.length := by rw [HZL.out]; exact hpf.sum
              have hpl : P.length = S.length := hpf.len
              have HCT := Lib.hid (cntS_take hx)
              have hcl1 := cntS_le G i
              have hcl2 := cntS_le G (i + 1)
              have hcn := HCN.out
              have hct := HCT.out
              obtain ⟨u, cu, s, cs, a0, a1, a2, hu, hs⟩ := sls_at HX2.out hx
              obtain ⟨_, _, he, hcap, hcap2, hat⟩ := rowsAt hu
              simp only [Value.slice.injEq, true_and] at he
              obtain ⟨rfl, rfl⟩ := he
              have HAT := Lib.hid hat
              have hki : (i : Int) < (G.length : Int) := by omega
              have hsb : cntS (G.take i) ≤ 128 ∧ cntS (G.take i) + c1 ≤ 128 := by
                have h1 : cntS (G.take (i + 1)) = cntS (G.take i) + c1 := hct
                omega
              have HCS := Lib.hid (show cntS (G.take (i + 1)) = cntS (G.take i) + c1 from hct)
              have HPS := Lib.hid hps
              have HPL := Lib.hid hpl
              have hlb : lenS P ≤ 8 := by rw [hps, HZL.out]; exact ht8
              generalize cntS (G.take i) = sm at *
              clear hpf hcl1 hcl2 hcn hct hu hs hat hx hps hpl HCT
              go_wp2_with fail
              go_loopw [11, 12] (fun s x wr => ∃ j q : Nat, j ≤ P.length ∧ x = .int .i64 (j : Nat) ∧ s = .int .i64 ((lenS (P.take j) : Nat) : Int) ∧ wr = w3.drewN q) (fun _ x _ => P.length - (intOf x).toNat)
              case atStart => exact ⟨0, _, Nat.zero_le _, rfl, rfl, rfl⟩
              case round =>
                obtain ⟨j, q2, hj, rfl, rfl, rfl⟩ := hrel
                have hjb := lenS_le P j
                by_cases hlt3 : j < P.length
                · obtain ⟨ad, qt, A5, c5, rfl, hq, -, hcq⟩ := HAT.out j hlt3
                  have HLT := Lib.hid (lenS_take hq)
                  have hjb2 := lenS_le P (j + 1)
                  rw [HLT.out] at hjb2
                  have hkj : (j : Int) < (P.length : Int) := by omega
                  generalize lenS (P.take j) = ls at *
                  clear hq
                  go_wp2_with fail
                  go_roundw
                  case rel => exact ⟨j + 1, _, by omega, by go_num, by rw [HLT.out]; go_num, rfl⟩
                  case measure => simp [intOf]; omega
                · have hjP : j = P.length := by omega
                  subst hjP
                  rw [List.take_length, HPS.out]
                  have hb1 : (((zs.length : Nat) : Int) != ((zs.length : Nat) : Int)) = false := by simp
                  have hb2 : (((P.length : Nat) : Int) != ((S.length : Nat) : Int)) = false := by rw [HPL.out]; simp
                  go_wp2_with fail
                  go_quiet (fail)
                  go_wp2_with fail
                  go_roundw
                  case rel => exact ⟨i + 1, _, by omega, by go_num, by rw [HCS.out]; go_num, rfl⟩
                  case measure => simp [intOf]; omega
            · have hie : i = G.length := by omega
              subst hie
              have hki : ¬ ((G.length : Nat) : Int) < (G.length : Int) := by omega
              rw [List.take_length, HCN.out]
              have hTT : ((T : Int) != (T : Int)) = false := by simp
              have HBQ := Lib.hid (below_drewN HBW.out q)
              have HRO := Lib.hid (l_roll (w3.drewN q) A n c 615 ((HBY.out.belowP (Nat.le_refl _) HBQ.out).monoP HBQ.out.size) hn4 (by omega) (by omega))
              go_upto_region 30 with (first
                | (go_at_call 56; go_loud (refine HRO.out.mono ?_; rintro e w5 ⟨p, rfl, hs1, hb1⟩; have HS5 := Lib.hid hs1; have HB5 := Lib.hid hb1; have hpl := hs1.lt; have hpg := hs1.ge; clear hs1 hb1))
                | (go_at_call 57; go_loud (refine (l_below w5 _ p (T : Int) HS5.out (by omega) (by omega)).mono ?_; rintro e w6 ⟨y, rfl, y0, y1, hg6, hs6⟩; obtain ⟨k, rfl⟩ : ∃ k : Nat, y = k := ⟨y.toNat, by omega⟩; have hkT : k < T := (by omega); have tk1 : -9223372036854775808 ≤ (k : Int) * 2 ∧ (k : Int) * 2 ≤ 9223372036854775807 := (by omega); obtain ⟨mk, hmk⟩ : ∃ mk : Int, mk = ((2 * k : Nat) : Int) := ⟨_, rfl⟩; have tk2 : (k : Int) * 2 = mk := (by omega); have HMKE := Lib.hid hmk; have hwk1 := (w64_dr _ tk1).trans tk2; have hwk2 := (wrap_i64 _ tk1).trans tk2; have HB6 := Lib.hid (HB5.out.grown hg6 HB5.out.size (fun k e => by injection e with e; omega)); clear hg6 hs6 y0 y1 tk1 tk2 hmk)))
              clear HRO HS5 HB5 hpl hpg
              obtain ⟨pcs, r, K, cK, hm0, hpc, hsk, hGK⟩ := HMK.out k hkT
              rw [← HMKE.out] at hm0 hpc hsk
              have HGK := Lib.hid hGK
              have HZ6 := Lib.hid ((HZ.out.drewN q).below HB6.out)
              have HC1 := Lib.hid (i_PiecesOf w6 _ zs mk HZ6.out)
              have HC2 := Lib.hid (fun X (hX : Below w6.heap.size w6 X) => i_SkeletonOf X _ zs mk (HZ6.out.below hX))
              simp only [hm0, hpc] at HC1
              simp only [hm0, hsk] at HC2
              clear hm0 hpc hsk hGK
              go_upto_region 32 with (first
                | (go_at_call 49; go_loud (refine HC1.out.mono ?_; rintro e w7 ⟨x7, rfl, hx7, hb7⟩; have HX7 := Lib.hid hx7.rows; have HB7 := Lib.hid hb7; clear hx7 hb7))
                | (go_at_call 40; go_loud (refine (HC2.out _ HB7.out).mono ?_; rintro e w8 ⟨x8, rfl, hx8, hb8⟩; have HX8 := Lib.hid hx8.ints; have HX7 := Lib.hid (HX7.out.below hb8); have HB8 := Lib.hid (HB7.out.trans (hb8.mono HB7.out.size)); clear hx8 hb8)))
              have HB38 := Lib.hid (HB6.out.trans (HB8.out.mono HB6.out.size))
              have HX28 := Lib.hid (show SLs ePc tPt w8 w1.heap.size (.slice (some ⟨g2, 0, none⟩) G.length cap2) G from SLs.below (show SLs ePc tPt (w3.drewN q) w1.heap.size (.slice (some ⟨g2, 0, none⟩) G.length cap2) G from HX2.out) HB38.out)
              have HBW8 := Lib.hid (HBQ.out.trans (HB38.out.mono HBQ.out.size))
              have hKG := (List.getElem?_eq_some_iff.1 HGK.out).1
              clear HB38 HB7 HB8 HB6 HC1 HC2 HX2 HX3
              go_wp2_with fail
              go_loopw [18] (fun x wr => ∃ i q : Nat, i ≤ K ∧ x = .int .i64 (i : Nat) ∧ wr = w8.drewN q) (fun x _ => G.length - (intOf x).toNat)
              case atStart => exact ⟨0, 0, Nat.zero_le _, rfl, rfl⟩
              case round =>
                obtain ⟨i, q3, hi, rfl, rfl⟩ := hrel
                have hiG : i < G.length := by omega
                obtain ⟨⟨⟨P, S⟩, c1⟩, hx⟩ : ∃ x, G[i]? = some x := ⟨_, List.getElem?_eq_getElem hiG⟩
                obtain ⟨u, cu, s, cs, a0, a1, a2, hu, hs⟩ := sls_at HX28.out hx
                have HLR := Lib.hid (fun m => l_likeRows5 (w8.drewN m) _ _ _ _ (hu.drewN m) (HX7.out.drewN m))
                have HLI := Lib.hid (fun m => l_likeInts (w8.drewN m) _ _ _ _ (hs.drewN m) (HX8.out.drewN m))
                have hki : (i : Int) < (G.length : Int) := by omega
                have hK : i = K → P = pcs ∧ S = r := fun e => by
                  rw [e, HGK.out] at hx
                  injection hx with hx
                  injection hx with hx _
                  injection hx with h1 h2
                  exact ⟨h1.symm, h2.symm⟩
                clear hu hs hx
                by_cases hPe : P = pcs
                · simp only [show decide (P.map up = pcs.map up) = true from decide_eq_true (by rw [hPe])] at HLR
                  by_cases hSe : S = r
                  · simp only [show decide (up S = up r) = true from decide_eq_true (by rw [hSe])] at HLI
                    clear hPe hSe hK
                    go_wp2_with (first
                      | (go_at_call 55; refine (HLR.out _).mono ?_; rintro e w' ⟨rfl, d1, rfl⟩)
                      | (go_at_call 36; refine (HLI.out _).mono ?_; rintro e w' ⟨rfl, d2, rfl⟩))
                    go_ret
                    exact ⟨rfl, by first | exact below_drewN HBW8.out _ | exact below_drewN (below_drewN HBW8.out _) _ | exact below_drewN (below_drewN (below_drewN HBW8.out _) _) _⟩
                  · simp only [show decide (up S = up r) = false from decide_eq_false fun e => hSe (up_inj e)] at HLI
                    have hne : i ≠ K := fun e => hSe (hK e).2
                    clear hPe hSe hK
                    go_wp2_with (first
                      | (go_at_call 55; refine (HLR.out _).mono ?_; rintro e w' ⟨rfl, d1, rfl⟩)
                      | (go_at_call 36; refine (HLI.out _).mono ?_; rintro e w' ⟨rfl, d2, rfl⟩))
                    go_roundw
                    case rel => exact ⟨i + 1, _, by omega, by go_num, by first | rfl | exact World.drewN_drewN ..⟩
                    case measure => simp [intOf]; omega
                · simp only [show decide (P.map up = pcs.map up) = false from by rw [map_up_dec]; exact decide_eq_false hPe] at HLR
                  have hne : i ≠ K := fun e => hPe (hK e).1
                  clear hPe hK
                  go_wp2_with (go_at_call 55; refine (HLR.out _).mono ?_; rintro e w' ⟨rfl, d1, rfl⟩)
                  go_roundw
                  case rel => exact ⟨i + 1, _, by omega, by go_num, by first | rfl | exact World.drewN_drewN ..⟩
                  case measure => simp [intOf]; omega
end Go.Proofs.Ytbjeibcombjfgaa

