/- Walks: l01Own, l01Own2, l09Own of the reference. -/
import Derived.Test.YtgbfifcbbfhpmaaAppZ
import Derived.Test.YtgbfifcbbfhpmaaTwo
import Derived.Test.YtgbfifcbbfhpmaaColM
import Derived.Test.YtgbfifcbbfhpmaaScale
import Derived.Deep.RegionHeld3
set_option maxRecDepth 100000
set_option linter.unusedVariables false
set_option linter.unusedSimpArgs false
namespace Go.Proofs.Ytgbfifcbbfhpmaa
open Go.RowKit

theorem ints_oneC (zs : List Int) : ∀ u ∈ ints zs, u.oneCell' = true := by
  intro u hu
  obtain ⟨z, _, rfl⟩ := List.mem_map.1 hu
  rfl

set_option maxHeartbeats 1000000 in
theorem s_l01Own (w : World) (v : Value) (zs : List Int) (ha : Ints w v zs) (hn : zs.length ≤ 4294967296) :
    Calls Try.prog 115 #[v] w fun e w' => ∃ r, e = .returned r ∧ OwnInts w' w.heap.size tI r zs ∧ Below w.heap.size w w' := by
  obtain ⟨A, c, rfl, l1, l2, h3⟩ := ha.open_
  have HA := Lib.hid ha
  clear h3 ha
  have OL := Lib.hid (own_lit w tI [] (by simp [maxLen]))
  have B1 := Lib.hid (below1 w (.cells #[] tI))
  go_enter Try.func115, Try.ntmps115
  go_wp2_with (at_builtin; refine wpList_appN T_int OL.out (HA.out.below B1.out).1 (by rw [ints_len]; simp; omega) B1.out.size (ints_oneC _) rfl (by rfl) (by rfl) (by rfl) ?_; intro v1 w2 hown1 hgr1)
  go_ret
  exact ⟨_, rfl, ⟨by simpa using hown1, HA.out.2⟩, hgr1.below B1.out (by simp) OL.out.ge⟩

set_option maxHeartbeats 1000000 in
theorem s_l01Own2 (w : World) (v : Value) (A : List (List Int)) (ha : Rows w v A) (hn : A.length ≤ 1000) (hl : ∀ zs ∈ A, zs.length ≤ 4294967296) :
    Calls Try.prog 116 #[v] w fun e w' => ∃ r, e = .returned r ∧ OR w' w.heap.size w'.heap.size tL tI r A ∧ Below w.heap.size w w' := by
  obtain ⟨A1, c1, rfl, l1, l2, h3⟩ := ha.open_
  have H3 := Lib.hid h3
  have HL := Lib.hid hl
  clear h3 ha hl
  have OL := Lib.hid (show Two (w.alloc (.cells #[] tL)) w.heap.size (.slice (some ⟨w.heap.size, 0, none⟩) 0 0) (.slice none 0 0) [] [] [] from ⟨own_lit w tL [] (by simp [maxLen]), RowsOwn.nil _ _ _ _, OwnInts.nil _ _ _, fun k u hu => by simp at hu⟩)
  go_enter Try.func116, Try.ntmps116
  go_wp2_with fail
  go_loopw [3, 4] (fun o i wr => ∃ (j : Nat) (vs : List Value), j ≤ A.length ∧ i = .int .i64 j ∧ Two wr w.heap.size o (.slice none 0 0) vs (A.take j) [] ∧ Below w.heap.size w wr) (fun _ i _ => A.length - (intOf i).toNat)
  case atStart => exact ⟨0, [], Nat.zero_le _, rfl, OL.out, below1 _ _⟩
  case round =>
    obtain ⟨j, vs, hj, rfl, ht, hb⟩ := hrel
    clear OL
    have HT := Lib.hid ht
    have HB := Lib.hid hb
    have hvl : vs.length ≤ 1000 := by have := ht.rows.1; rw [List.length_take] at this; omega
    clear ht hb
    by_cases hlt : j < A.length
    · obtain ⟨ad, u, zs, rfl, hz, hu, hc0⟩ := H3.out j hlt
      have hc : wr.cell? (ad.add j) = some u := by
        rw [HB.out.cell (by rw [block_add]; have := World.block_lt_of_cell? w _ hc0; rwa [block_add] at this)]; exact hc0
      have HU := Lib.hid (hu.below HB.out)
      have hzl := HL.out zs (List.mem_of_getElem? hz)
      have HS := Lib.hid (show A.take (j + 1) = A.take j ++ [zs] by rw [List.take_add_one, hz]; simp)
      have hji : (j : Int) < (A.length : Int) := by omega
      clear hz hu hc0
      go_wp2_with (first
        | (go_at_call 115; refine (s_l01Own _ _ zs (by exact HU.out) hzl).mono ?_; rintro e w5 ⟨r5, rfl, ho5, hb5⟩; obtain ⟨A5, c5, hv5, -, -, -⟩ := ho5.ints.open_; subst hv5)
        | (at_builtin; refine wpList_app1 T_row (HT.out.own.below hb5) (by omega) (Nat.le_trans HB.out.size hb5.size) (by rfl) rfl (by rfl) (by rfl) (by rfl) ?_; intro v1 w1 hown1 hgr1))
      go_roundw
      case rel =>
        refine ⟨j + 1, vs ++ [.slice A5 zs.length c5], by omega, by go_num, ?_, hgr1.below (HB.out.trans (hb5.mono HB.out.size)) (Nat.le_trans HB.out.size hb5.size) HT.out.own.ge⟩
        rw [HS.out]
        exact HT.out.addA' hb5 HB.out.size ho5 hown1 hgr1
      case measure => simp [intOf]; omega
    · have : j = A.length := by omega
      subst this
      rw [List.take_length] at HT
      go_wp2_with fail
      go_ret
      exact ⟨_, rfl, ⟨vs, HT.out.own, HT.out.own.lt, HT.out.rows⟩, HB.out⟩

set_option maxHeartbeats 2000000 in
theorem s_l09Own (w : World) (v : Value) (A : List (List Int)) (Bs : List Int) (ha : TabArg w v A Bs) (hT : NumTab A Bs) :
    Calls Try.prog 60 #[v] w fun e w' => ∃ r, e = .returned r ∧ OT w' w.heap.size w'.heap.size r A Bs ∧ Below w.heap.size w w' := by
  obtain ⟨va, vb, rfl, hA, hB⟩ := ha
  have HA := Lib.hid hA
  have HB := Lib.hid hB
  obtain ⟨Aa, ca, rfl, -, -, -⟩ := hA.open_
  obtain ⟨Ab, cb, rfl, -, -, -⟩ := hB.open_
  have B0 := Lib.hid (below2 w (.cells #[.slice Aa A.length ca, .slice Ab Bs.length cb] 27) (.cells #[.slice none 0 0, .slice none 0 0] 27))
  have K0 := Lib.hid ((Blk.new w #[.slice Aa A.length ca, .slice Ab Bs.length cb] 27).alloc (.cells #[.slice none 0 0, .slice none 0 0] 27))
  have K1 := Lib.hid (Blk.new1 w (.cells #[.slice Aa A.length ca, .slice Ab Bs.length cb] 27) #[.slice none 0 0, .slice none 0 0] 27)
  have hla := hT.la
  have hlb := hT.lb
  have HT := Lib.hid hT
  clear hA hB hT
  go_enter Try.func60, Try.ntmps60
  go_wp2_with fail
  have hs1 : ((w.alloc (.cells #[.slice Aa A.length ca, .slice Ab Bs.length cb] 27)).alloc (.cells #[.slice none 0 0, .slice none 0 0] 27)).heap.size = w.heap.size + 1 + 1 := by simp
  generalize ((w.alloc (.cells #[.slice Aa A.length ca, .slice Ab Bs.length cb] 27)).alloc (.cells #[.slice none 0 0, .slice none 0 0] 27)) = w1 at B0 K0 K1 hs1 ⊢
  have HS1 := Lib.hid hs1
  clear hs1
  have g0 : w1.cell? ⟨w.heap.size, 0, none⟩ = some (.slice Aa A.length ca) := K0.out.cell 0
  have g1 : w1.cell? ⟨w.heap.size, 1, none⟩ = some (.slice Ab Bs.length cb) := K0.out.cell 1
  go_region_held3 (fun w' => w'.cell? ⟨w.heap.size, 0, none⟩ = some (.slice Aa A.length ca) ∧ w'.cell? ⟨w.heap.size, 1, none⟩ = some (.slice Ab Bs.length cb)) ((go_split_ands; refine ⟨?_, ?_⟩ <;> (first
      | (rw [hb6.cell (by have h1 := K0.out.lt; have h5 := hb5.size; simp at h5 ⊢; omega)]; assumption)
      | (rw [hb5.cell (by have h1 := K0.out.lt; simp; omega)]; assumption)
      | go_keep)))
    (first
      | (go_at_call 116; refine (s_l01Own2 _ _ A (by exact HA.out.below B0.out.drew) hla (fun zs hz => by have := (HT.out.rows zs hz).2; omega)).mono ?_; rintro e w5 ⟨v5, rfl, ho5, hb5⟩; obtain ⟨A5, c5, hv5, -, -, -⟩ := ho5.rows.open_; subst hv5)
      | (go_at_call 115; refine (s_l01Own _ _ Bs (by exact HB.out.below (B0.out.trans ((below_of_drew hb5).mono B0.out.size))) (by omega)).mono ?_; rintro e w6 ⟨v6, rfl, ho6, hb6⟩; obtain ⟨A6, c6, hv6, -, -, -⟩ := ho6.ints.open_; subst hv6; have X6 := K1.out.below ((below_of_drew hb5).trans (hb6.mono hb5.size)) K1.out.lt; have f0 : w6.cell? ⟨w.heap.size + 1, 0, none⟩ = some (.slice none 0 0) := X6.cell 0; have f1 : w6.cell? ⟨w.heap.size + 1, 1, none⟩ = some (.slice none 0 0) := X6.cell 1; have f2 := X6.frozen 0; have f3 := X6.frozen 1))
  go_wp2_with fail
  have B6 : Below w.heap.size w w6 := B0.out.trans (((below_of_drew hb5).trans (hb6.mono hb5.size)).mono B0.out.size)
  have hd5 : w1.heap.size ≤ w5.heap.size := hb5.size
  have hz1 := HS1.out
  have c0 := Chg.refl (w.heap.size + 1) (w.heap.size + 1 + 1) w6
  have c1' := c0.setCell (p := ⟨w.heap.size + 1, 0, none⟩) (Nat.le_refl _) (by simp) (.slice A5 A.length c5)
  have c2' := c1'.setCell (p := ⟨w.heap.size + 1, 1, none⟩) (Nat.le_refl _) (by simp) (.slice A6 Bs.length c6)
  have hot : OT w6 w1.heap.size w6.heap.size (.agg #[.slice A5 A.length c5, .slice A6 Bs.length c6]) A Bs := OT.of_M (M := w5.heap.size) hd5 hb6.size ((show OR w5 w1.heap.size w5.heap.size tL tI _ A from ho5).below hb6) (OI.of ho6)
  refine bodyPost_ret (v := .agg #[.slice A5 A.length c5, .slice A6 Bs.length c6]) (by simp [results, Try.results60, go_sem, f0, f1]) rfl ⟨_, rfl, ?_, c2'.below B6 (by omega) B6.size⟩
  exact (hot.kept c2' (.inr (by omega))).mono (by omega) c2'.size
end Go.Proofs.Ytgbfifcbbfhpmaa
