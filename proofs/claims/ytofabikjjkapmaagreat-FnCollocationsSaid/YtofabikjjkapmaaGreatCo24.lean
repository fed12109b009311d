/- Walks: l11DrawAny, DrawCollocationTableau of the reference. | Walks of helpers of the laws: likeInts, whole9, big. | Walks of helpers of the laws: likeRows5, likeTableau5. | Walks: the character of a tableau, InverseMap and ComposeTableaus of the reference. | The laws' remainder at any number that a law meets. -/
import Derived.Test.YtofabikjjkapmaaGreatCo23
import Derived.Test.YtofabikjjkapmaaGreatCo3
import Derived.Test.YtofabikjjkapmaaGreatCo20
import Derived.Test.YtofabikjjkapmaaGreatCo6
import Derived.Test.YtofabikjjkapmaaGreatCo19
import Derived.Test.YtofabikjjkapmaaGreatCo15
import Derived.Test.YtofabikjjkapmaaGreatCo1
set_option maxRecDepth 100000
set_option linter.unusedVariables false
set_option linter.unusedSimpArgs false
namespace Go.Proofs.YtofabikjjkapmaaGreat
open Go.RowKit

theorem own_some {w : World} {B : Nat} {v : Value} {zs : List Int} (h : OwnInts w B tI v zs) (h1 : 1 ≤ zs.length) : ∃ g cap, v = .slice (some ⟨g, 0, none⟩) zs.length cap ∧ B ≤ g := by
  rcases h.1.cases with ⟨-, e⟩ | ⟨g, cap, cur, e, hb, -⟩
  · have := congrArg List.length e
    rw [ints_len] at this
    simp at this
    subst this
    simp at h1
  · rw [ints_len] at e
    exact ⟨g, cap, e, hb⟩
theorem own_first {w : World} {B g n cap : Nat} {zs : List Int} {z : Int} (h : OwnInts w B tI (.slice (some ⟨g, 0, none⟩) n cap) zs) (hz : zs[0]? = some z) : w.cell? ⟨g, 0, none⟩ = some (.int .i64 z) := by
  obtain ⟨ad, n', c', e, hc⟩ := h.1.cells.at_ (ints_get hz)
  simp only [Value.slice.injEq, Option.some.injEq] at e
  obtain ⟨rfl, -, -⟩ := e
  exact hc
set_option maxHeartbeats 8000000 in
theorem s_l11DrawAny (w : World) (B p : Nat) (h : Src w B tSc p) :
    Calls Tryz.prog 67 #[at0 p] w fun e w' => ∃ x, e = .returned x ∧ ∃ zs, Ints w' x zs ∧ w.grownBy w' (some p) ∧ Src w' B tSc p := by
  have hpl := h.lt
  have HN := Lib.hid (s_l11DrawNodes w B p h)
  clear h
  go_enter Tryz.func67, Tryz.ntmps67
  go_upto_region 3 with (first
    | (go_at_call 124; go_loud (refine HN.out.mono ?_; rintro e w1 ⟨x1, rfl, zs, ho, hn, hl, hg, hs⟩; obtain ⟨g, cap, rfl, hgg⟩ := own_some ho hl.1; have HO1 := Lib.hid ho; have HL := Lib.hid hl; have HG1 := Lib.hid hg; have HS1 := Lib.hid hs; clear ho hn hl hg hs))
    | (go_at_call 111; go_loud (refine (s_l01Next w1 B p 24 HS1.out (by omega) (by omega)).mono ?_; rintro e w2 ⟨x, rfl, x0, x1, hg, hs⟩; have HO2 := Lib.hid (show OwnInts w2 w.heap.size tI (.slice (some ⟨g, 0, none⟩) zs.length cap) zs from ⟨HO1.out.1.src hpl hg, HO1.out.2⟩); have HG2 := Lib.hid (gtrans HG1.out hg); have HS2 := Lib.hid hs; clear hg hs x0 x1)))
  clear HN HO1 HG1 HS1
  have hpl2 : p < w2.heap.size := HS2.out.lt
  by_cases hx : x = 0
  · have hd0 : (x == 0) = true := by simp [hx]
    clear hx
    obtain ⟨z, hz⟩ : ∃ z, zs[0]? = some z := ⟨_, List.getElem?_eq_getElem (by have := HL.out; omega)⟩
    have hc := own_first HO2.out hz
    have HZ := Lib.hid (HO2.out.2 z (List.mem_of_getElem? hz))
    have h0n : 0 < zs.length := by have := HL.out; omega
    have h0i : (0 : Int) < (zs.length : Int) := by omega
    clear hz
    go_wp2_with (at_builtin; go_loud (refine wpList_app1 T_int HO2.out.1 (by rw [ints_len]; have := HL.out; omega) HG2.out.size (by rfl) rfl (by rfl) (by rfl) (by rfl) ?_; intro v3 w3 hown3 hgr3; have HN3 := Lib.hid hown3; have HR3 := Lib.hid hgr3; clear hown3 hgr3))
    go_ret
    refine ⟨_, rfl, zs ++ [z], ⟨by simpa [ints] using HN3.out.cells, fun y hy => ?_⟩, gthen HG2.out HR3.out.1 HO2.out.1.ge, HS2.out.kept HR3.out.1 (fun e => by have := HO2.out.1.ge _ e; omega) (fun b hb => ?_)⟩
    · rcases List.mem_append.1 hy with hy | hy
      · exact HO2.out.2 y hy
      · simp at hy; subst hy; exact HZ.out
    · exact Nat.le_trans (Nat.le_trans HS2.out.ge (Nat.le_of_lt hpl)) (HO2.out.1.ge b hb)
  · have hd0 : (x == 0) = false := by simp [hx]
    by_cases hx1 : x = 1
    · have hd1 : (x == 1) = true := by simp [hx1]
      clear hx hx1
      go_wp2_with (first
        | (go_at_call 126; go_loud (refine (s_l01Pick _ B p _ [0, 9] (HS2.out.below (below1 w2 (.cells (ints [0, 9]).toArray tI))) (lit_keep w2 p [0, 9] (by intro z hz; simp at hz; unfold In64; omega) (by simp) hpl2) (by simp) (by simp)).mono ?_; rintro e w4 ⟨y, rfl, hy, hg, hs⟩; obtain ⟨m, rfl, hm⟩ : ∃ m : Nat, y = m ∧ m ≤ 1000 := (by simp at hy; exact ⟨y.toNat, by omega, by omega⟩); have HG4 := Lib.hid (gtrans (gtrans HG2.out (gof (below1 w2 _))) hg); have HS4 := Lib.hid hs; clear hg hs hy))
        | (go_at_call 125; go_loud (refine (s_l01List _ B p m HS4.out hm).mono ?_; rintro e w5 ⟨x5, rfl, ys, ho, lz, nz, hg, hs⟩; have HO5 := Lib.hid ho.ints; have HG5 := Lib.hid (gtrans HG4.out hg); have HS5 := Lib.hid hs; clear ho lz nz hg hs)))
      go_ret
      exact ⟨_, rfl, ys, HO5.out, HG5.out, HS5.out⟩
    · have hd1 : (x == 1) = false := by simp [hx1]
      by_cases hx2 : x = 2
      · have hd2 : (x == 2) = true := by simp [hx2]
        clear hx hx1 hx2
        have h0n : 0 < zs.length := by have := HL.out; omega
        have h0i : (0 : Int) < (zs.length : Int) := by omega
        go_wp2_with (go_at_call 127; go_loud (refine (s_l01Spoil _ B p HS2.out).mono ?_; rintro e w6 ⟨z, rfl, hz, hg, hs⟩; have HZ := Lib.hid hz; have HO6 := Lib.hid (show OwnInts w6 w.heap.size tI (.slice (some ⟨g, 0, none⟩) zs.length cap) zs from ⟨HO2.out.1.src hpl hg, HO2.out.2⟩); have HG6 := Lib.hid (gtrans HG2.out hg); have HS6 := Lib.hid hs; obtain ⟨u0, -, hc, hfz, -, -, hst, hgw⟩ := Own.storeAt HO6.out.1 (k := 0) (by rw [ints_len]; exact h0n) (.int .i64 z); have HST := Lib.hid hst; have HGW := Lib.hid hgw; clear hz hg hs hst hgw))
        go_ret
        refine ⟨_, rfl, zs.set 0 z, ⟨?_, fun y hy => ?_⟩, gthen HG6.out HGW.out (by rintro b ⟨⟩; exact hgg), HS6.out.kept HGW.out (fun e => by injection e with e; omega) (by rintro b ⟨⟩; have := HS6.out.ge; omega)⟩
        · have h := HST.out.cells
          rw [ints_set] at h
          exact h
        · rcases List.mem_or_eq_of_mem_set hy with hy | rfl
          · exact HO6.out.2 y hy
          · exact HZ.out
      · have hd2 : (x == 2) = false := by simp [hx2]
        clear hx hx1 hx2
        go_wp2_with fail
        go_ret
        exact ⟨_, rfl, zs, HO2.out.ints, HG2.out, HS2.out⟩
set_option maxHeartbeats 2000000 in
theorem s_DrawCollocationTableau (w : World) (A : Option Addr) (N c : Nat) (hb : ByB w w.heap.size A N) (hN : N ≤ 4096) :
    Calls Tryz.prog 20 #[.slice A N c] w fun e w' => ∃ x, e = .returned x ∧ ∃ zs, Ints w' x zs ∧ Below w.heap.size w w' := by
  have HFR := Lib.hid (s_l01From w A N c hb hN)
  clear hb
  go_enter Tryz.func20, Tryz.ntmps20
  go_wp2_with (first
    | (go_at_call 68; go_loud (refine HFR.out.mono ?_; rintro e w1 ⟨p, rfl, hs1, hb1⟩; have HS1 := Lib.hid hs1; have HB1 := Lib.hid hb1; have hpg := hs1.ge; clear hs1 hb1))
    | (go_at_call 67; go_loud (refine (s_l11DrawAny w1 _ p HS1.out).mono ?_; rintro e w2 ⟨x, rfl, zs, hz, hg, hs⟩; have HZ := Lib.hid hz; have HG2 := Lib.hid hg; clear hz hg hs)))
  go_ret
  exact ⟨_, rfl, zs, HZ.out, HB1.out.grown HG2.out HB1.out.size (fun k e => by injection e with e; omega)⟩
end Go.Proofs.YtofabikjjkapmaaGreat

set_option maxRecDepth 100000
set_option linter.unusedVariables false
set_option linter.unusedSimpArgs false
namespace Go.Proofs.YtofabikjjkapmaaGreat
open Go.RowKit

set_option maxHeartbeats 400000 in
theorem l_likeInts (w : World) (a b : Value) (xs ys : List Int) (ha : Ints w a xs) (hb : Ints w b ys) :
    Calls Tryz.prog 30 #[a, b] w fun e w' => e = .returned (.bool (decide (xs = ys))) ∧ ∃ n, w' = w.drewN n := by
  obtain ⟨A, c, rfl, h1, h2, h3⟩ := ha.open_
  obtain ⟨B, d, rfl, g1, g2, g3⟩ := hb.open_
  clear ha hb
  have H3 := Lib.hid h3
  have G3 := Lib.hid g3
  clear h3 g3
  by_cases hl : xs.length = ys.length
  · have hl' : (((xs.length : Nat) : Int) != ((ys.length : Nat) : Int)) = false := by simp [hl]
    have HL := Lib.hid hl
    clear hl
    have g4 : ys.length ≤ xs.length := by rw [HL.out]; omega
    have g5 : xs.length ≤ ys.length := by rw [HL.out]; omega
    go_enter Tryz.func30, Tryz.ntmps30
    go_wp2
    go_loopw [5] (fun i wr => ∃ k n : Nat, k ≤ xs.length ∧ i = .int .i64 k ∧ xs.take k = ys.take k ∧ wr = w.drewN n) (fun i _ => xs.length - (intOf i).toNat)
    case atStart => exact ⟨0, 0, Nat.zero_le _, rfl, rfl, rfl⟩
    case round =>
      obtain ⟨k, n, hk, rfl, ht, rfl⟩ := hrel
      have HT := Lib.hid ht
      clear ht
      by_cases hlt : k < xs.length
      · obtain ⟨ad, z, rfl, hz, hz2, hc⟩ := H3.out k hlt
        obtain ⟨ad', y, rfl, hy, hy2, hc'⟩ := G3.out k (by omega)
        have HZ := Lib.hid hz
        have HY := Lib.hid hy
        clear hz hy hz2 hy2
        go_wp2
        go_quiet (fail)
        go_wp2
        · have hne : (z != y) = true := by assumption
          go_ret
          refine ⟨ret_bool ?_, _, World.drewN_drewN _ _ _⟩
          symm
          simp only [decide_eq_false_iff_not]
          rintro rfl
          have := HZ.out.symm.trans HY.out
          simp at this hne
          exact hne this
        · have hne : (z != y) = false := by assumption
          go_roundw
          case rel => exact ⟨k + 1, _, by omega, by go_num, take_eq_succ HT.out HZ.out HY.out (by simpa using hne), rfl⟩
          case measure => simp [intOf]; omega
      · have : k = xs.length := by omega
        subst this
        go_wp2
        go_ret
        refine ⟨ret_bool ?_, _, rfl⟩
        have e := HT.out
        rw [List.take_length, List.take_of_length_le (by omega)] at e
        simp [e]
  · have hl' : (((xs.length : Nat) : Int) != ((ys.length : Nat) : Int)) = true := by simp; omega
    have HL := Lib.hid hl
    clear hl
    go_enter Tryz.func30, Tryz.ntmps30
    go_wp2
    go_ret
    refine ⟨ret_bool ?_, 0, rfl⟩
    have := HL.out
    symm
    simp only [decide_eq_false_iff_not]
    rintro rfl
    exact this rfl

set_option maxHeartbeats 400000 in
theorem l_whole9 (w : World) (v : Value) (xs : List Int) (ha : Ints w v xs) :
    Calls Tryz.prog 34 #[v] w fun e w' => e = .returned (.bool (decide (xs.length = 38))) ∧ w = w' := by
  obtain ⟨A, c, rfl, h1, h2, h3⟩ := ha.open_
  clear ha h3
  by_cases h : xs.length = 38
  · have hd : ((xs.length : Int) == 38) = true := by simp [h]
    have HD := Lib.hid (show decide (xs.length = 38) = true by simp [h])
    clear h
    go_enter Tryz.func34, Tryz.ntmps34
    go_wp2_with fail
    go_ret
    exact ⟨ret_bool HD.out.symm, rfl⟩
  · have hd : ((xs.length : Int) == 38) = false := by simp; omega
    have HD := Lib.hid (show decide (xs.length = 38) = false by simp [h])
    clear h
    go_enter Tryz.func34, Tryz.ntmps34
    go_wp2_with fail
    go_ret
    exact ⟨ret_bool HD.out.symm, rfl⟩
set_option maxHeartbeats 400000 in
theorem l_big (w : World) (A : Option Addr) (n c : Nat) :
    Calls Tryz.prog 6 #[.slice A n c] w fun e w' => e = .returned (.bool (decide (4096 < n))) ∧ w = w' := by
  by_cases h : 4096 < n
  · have hd : (4096 : Int) < (n : Int) := by omega
    have HD := Lib.hid (show decide (4096 < n) = true by simp [h])
    clear h
    go_enter Tryz.func6, Tryz.ntmps6
    go_wp2_with fail
    go_ret
    exact ⟨ret_bool HD.out.symm, rfl⟩
  · have hd : ¬ ((4096 : Int) < (n : Int)) := by omega
    have HD := Lib.hid (show decide (4096 < n) = false by simp [h])
    clear h
    go_enter Tryz.func6, Tryz.ntmps6
    go_wp2_with fail
    go_ret
    exact ⟨ret_bool HD.out.symm, rfl⟩
end Go.Proofs.YtofabikjjkapmaaGreat

set_option maxRecDepth 100000
set_option linter.unusedVariables false
set_option linter.unusedSimpArgs false
namespace Go.Proofs.YtofabikjjkapmaaGreat
open Go.RowKit

end Go.Proofs.YtofabikjjkapmaaGreat

set_option maxRecDepth 100000
set_option linter.unusedVariables false
set_option linter.unusedSimpArgs false
namespace Go.Proofs.YtofabikjjkapmaaGreat
open Go.RowKit

theorem chT_nums (A : List (List Int)) (B : List Int) : Nums (chT A B) := chF_nums _ _ _
theorem chT_take1 (A : List (List Int)) (B : List Int) : (chT A B).take 1 = [1] := by
  have h := chT_len A B
  have h0 : (chT A B).getD 0 0 = 1 := (chr_chF B.length (fT A) (fB B)).one
  cases hc : chT A B with
  | nil => rw [hc] at h; simp at h
  | cons x l => rw [hc] at h0; simp at h0; simp [h0]
theorem chT_takeS (A : List (List Int)) (B : List Int) {i : Nat} (hi : i < 37) : (chT A B).take (i + 1 + 1) = (chT A B).take (i + 1) ++ [(chT A B).getD (i + 1) 0] := by
  have h := chT_len A B
  rw [List.take_add_one, List.getD_eq_getElem?_getD, List.getElem?_eq_getElem (by omega)]
  rfl
set_option maxHeartbeats 8000000 in
theorem im_character {A : List (List Int)} {Bs : List Int} (hT : SqT A Bs Bs.length) (h1 : 1 ≤ Bs.length) (h8 : Bs.length ≤ 8) (w : World) (va : Value) (ha : TabArg w va A Bs) :
    Calls Tryz.prog 81 #[va] w fun e w' => ∃ x, e = .returned x ∧ OwnInts w' w.heap.size tI x (chT A Bs) ∧ Below w.heap.size w w' := by
  obtain ⟨va1, vb1, rfl, ha1, ha2⟩ := ha
  obtain ⟨A1, c1, rfl, -, -, -⟩ := ha1.open_
  obtain ⟨A2, c2, rfl, -, -, -⟩ := ha2.open_
  obtain ⟨W, hW⟩ : ∃ W, W = w.alloc (.cells #[.slice A1 A.length c1, .slice A2 Bs.length c2] 37) := ⟨_, rfl⟩
  have hbw : Below w.heap.size w W := by rw [hW]; exact below1 w _
  have HBW := Lib.hid hbw
  have HKF := Lib.hid (show Blk W w.heap.size 37 #[.slice A1 A.length c1, .slice A2 Bs.length c2] from by rw [hW]; exact Blk.new _ _ _)
  have HTA := Lib.hid (show TabArg W (.agg #[.slice A1 A.length c1, .slice A2 Bs.length c2]) A Bs from ⟨_, _, rfl, ha1.below hbw, ha2.below hbw⟩)
  have HLK := Lib.hid (fun n (hn : n < 37) => im_weight hT h1 h8 n hn)
  have OL := Lib.hid (show Own (W.alloc (.cells #[.int .i64 1] tI)) W.heap.size tI (.slice (some ⟨W.heap.size, 0, none⟩) 1 1) (ints ((chT A Bs).take 1)) from by rw [chT_take1]; exact own_lit W tI [.int .i64 1] (by simp [maxLen]))
  have HBO := Lib.hid (below1 W (.cells #[.int .i64 1] tI))
  clear ha1 ha2 hbw
  go_enter Tryz.func81, Tryz.ntmps81
  go_upto_region 1 with fail
  rw [← hW]
  clear hW
  go_wp2_with (go_at_call 91; go_loud (refine (i_treesTo _ 6 (by omega)).mono ?_; rintro e w3 ⟨x3, rfl, hl3, hb3⟩; rw [show allG treesN 6 = T6n from rfl] at hl3; obtain ⟨A3, c3, he3, -, -, -⟩ := hl3.rows.open_; rw [List.length_map, T6n_len] at he3; subst he3; have HX3 := Lib.hid hl3; have HB3 := Lib.hid (HBO.out.trans (hb3.mono HBO.out.size)); have HO3 := Lib.hid (OL.out.below hb3); have HGS := Lib.hid (show W.heap.size < (W.alloc (.cells #[.int .i64 1] tI)).heap.size from by simp); clear hl3 hb3))
  go_loopw [3, 9] (fun o x wr => ∃ i : Nat, i ≤ 37 ∧ x = .int .i64 i ∧ Own wr W.heap.size tI o (ints ((chT A Bs).take (i + 1))) ∧ Apd w3 wr W.heap.size o ∧ Below W.heap.size W wr) (fun _ x _ => 37 - (intOf x).toNat)
  case atStart => exact ⟨0, Nat.zero_le _, rfl, HO3.out, Apd.refl rfl, HB3.out⟩
  case round =>
    obtain ⟨i, hi, rfl, ho, hb, hb2⟩ := hrel
    rename World => wq
    have HB := Lib.hid hb
    have HBQ := Lib.hid hb2
    have hel : ((chT A Bs).take (i + 1)).length = i + 1 := by rw [List.length_take, chT_len]; omega
    have hol := ho.cells.open_
    rw [ints_len, hel] at hol
    obtain ⟨Ao, co, rfl, -, -⟩ := hol
    have HEL := Lib.hid hel
    have HO := Lib.hid ho
    clear hb hb2 ho hel OL HO3
    by_cases hlt : i < 37
    · obtain ⟨ad, At, ct, t, rfl, ht, hti, hcr⟩ := (show Rows wq (.slice A3 37 c3) (T6n.map up) from (HX3.out.keptLt HB.out.gr HGS.out).rows).treeB hlt
      have htr := tr_at ht
      subst htr
      have HKQ := Lib.hid (HKF.out.below HBQ.out HKF.out.lt)
      have q0 : wq.cell? ⟨w.heap.size, 0, none⟩ = some (.slice A1 A.length c1) := HKQ.out.cell 0
      have q1 : wq.cell? ⟨w.heap.size, 1, none⟩ = some (.slice A2 Bs.length c2) := HKQ.out.cell 1
      have HLC := Lib.hid (HLK.out i hlt wq _ _ (HTA.out.below HBQ.out) hti)
      have HTS := Lib.hid (show ints ((chT A Bs).take (i + 1 + 1)) = ints ((chT A Bs).take (i + 1)) ++ [.int .i64 ((chT A Bs).getD (i + 1) 0)] from by rw [chT_takeS A Bs hlt, ints, ints, List.map_append]; rfl)
      have hii : (i : Int) < 37 := by omega
      generalize (chT A Bs).getD (i + 1) 0 = cc at HLC HTS
      clear hti ht
      go_wp2_with (first
        | (go_at_call 148; go_loud (refine HLC.out.mono ?_; rintro e w5 ⟨rfl, hb5⟩; have HB5 := Lib.hid hb5; have HO5 := Lib.hid (HO.out.below hb5); clear hb5))
        | (at_builtin; go_loud (refine wpList_app1 T_int HO5.out (by rw [ints_len, HEL.out]; omega) (Nat.le_trans HBQ.out.size HB5.out.size) (by rfl) rfl (by rfl) (by rfl) (by rfl) ?_; intro v1 w6 hown1 hgr1; have HNN := Lib.hid hown1; have HGR := Lib.hid hgr1; clear hown1 hgr1)))
      go_roundw
      case rel => exact ⟨i + 1, by omega, by go_num, by rw [HTS.out]; exact HNN.out, (HB.out.step HB5.out).app HGR.out, HGR.out.below (HBQ.out.trans (HB5.out.mono HBQ.out.size)) (Nat.le_trans HBQ.out.size HB5.out.size) HO.out.ge⟩
      case measure => simp [intOf]; omega
    · have hil : i = 37 := by omega
      subst hil
      have htl : (chT A Bs).take (37 + 1) = chT A Bs := List.take_of_length_le (by rw [chT_len]; omega)
      rw [htl] at HO
      go_wp2_with fail
      go_ret
      exact ⟨_, rfl, ⟨HO.out.mono HBW.out.size, fun z hz => in64_num (chT_nums A Bs z hz)⟩, HBW.out.trans (HBQ.out.mono HBW.out.size)⟩
set_option maxHeartbeats 2000000 in
theorem i_CharacterOf0 (w : World) (v : Value) (A : List (List Int)) (Bs : List Int) (ha : TabArg w v A Bs) (hb : tabB A Bs = true) :
    Calls Tryz.prog 33 #[v] w fun e w' => ∃ x, e = .returned (.tuple #[x, .int .i64 0]) ∧ OwnInts w' w.heap.size tI x (chT A Bs) ∧ Below w.heap.size w w' := by
  obtain ⟨va1, vb1, rfl, ha1, ha2⟩ := ha
  obtain ⟨A1, c1, rfl, -, -, -⟩ := ha1.open_
  obtain ⟨A2, c2, rfl, -, -, -⟩ := ha2.open_
  obtain ⟨W, hW⟩ : ∃ W, W = w.alloc (.cells #[.slice A1 A.length c1, .slice A2 Bs.length c2] 37) := ⟨_, rfl⟩
  have hbw : Below w.heap.size w W := by rw [hW]; exact below1 w _
  have HBW := Lib.hid hbw
  have HKF := Lib.hid (show Blk W w.heap.size 37 #[.slice A1 A.length c1, .slice A2 Bs.length c2] from by rw [hW]; exact Blk.new _ _ _)
  have HTA := Lib.hid (show TabArg W (.agg #[.slice A1 A.length c1, .slice A2 Bs.length c2]) A Bs from ⟨_, _, rfl, ha1.below hbw, ha2.below hbw⟩)
  have HIT := Lib.hid (i_IsTableau W _ A Bs HTA.out)
  rw [hb] at HIT
  have hI := isTab_of hb
  have HO := Lib.hid (fun X (hX : TabArg X (.agg #[.slice A1 A.length c1, .slice A2 Bs.length c2]) A Bs) => im_character (SqT.of hI) hI.lo hI.hi X _ hX)
  clear ha1 ha2 hbw hb hI
  have q0 : W.cell? ⟨w.heap.size, 0, none⟩ = some (.slice A1 A.length c1) := HKF.out.cell 0
  have q1 : W.cell? ⟨w.heap.size, 1, none⟩ = some (.slice A2 Bs.length c2) := HKF.out.cell 1
  go_enter Tryz.func33, Tryz.ntmps33
  go_upto_region 1 with fail
  rw [← hW]
  clear hW
  go_wp2_with (first
    | (go_at_call 73; go_loud (refine HIT.out.mono ?_; rintro e w2 ⟨rfl, hb2⟩; have HB2 := Lib.hid hb2; have m1 : w2.cell? ⟨w.heap.size, 0, none⟩ = some (.slice A1 A.length c1) := (HKF.out.below hb2 HKF.out.lt).cell 0; have m2 : w2.cell? ⟨w.heap.size, 1, none⟩ = some (.slice A2 Bs.length c2) := (HKF.out.below hb2 HKF.out.lt).cell 1; clear hb2))
    | (go_at_call 81; go_loud (refine (HO.out _ (HTA.out.below HB2.out)).mono ?_; rintro e w3 ⟨x3, rfl, ho3, hb3⟩; have HO3 := Lib.hid (ho3.mono (Nat.le_trans HBW.out.size HB2.out.size)); have HB3 := Lib.hid (HB2.out.trans (hb3.mono HB2.out.size)); clear ho3 hb3)))
  go_ret2
  exact ⟨_, rfl, HO3.out, HBW.out.trans (HB3.out.mono HBW.out.size)⟩
end Go.Proofs.YtofabikjjkapmaaGreat

set_option maxRecDepth 100000
set_option linter.unusedVariables false
set_option linter.unusedSimpArgs false
namespace Go.Proofs.YtofabikjjkapmaaGreat
open Go.RowKit

theorem tmod_numW (x : Int) : (x.tmod 10007 + 10007) % 10007 = x % 10007 := by
  rw [Int.tmod_eq_emod]; split <;> omega
set_option maxHeartbeats 1000000 in
theorem l_mod9w (w : World) (x : Int) (h0 : -1000000000 ≤ x) (h1 : x ≤ 1000000000) :
    Calls Tryz.prog 31 #[.int .i64 x] w fun e w' => e = .returned (.int .i64 (x % 10007)) ∧ w = w' := by
  have h2 : -10007 < x.tmod 10007 := by rw [Int.tmod_eq_emod]; split <;> omega
  have h3 : x.tmod 10007 < 10007 := by rw [Int.tmod_eq_emod]; split <;> omega
  have HT := Lib.hid (tmod_numW x)
  go_enter Tryz.func31, Tryz.ntmps31
  go_wp2
  go_ret
  exact ⟨ret_i64 HT.out, rfl⟩
end Go.Proofs.YtofabikjjkapmaaGreat

