/- Walk: stageWeights of tableaus. | Walks: weight, lacking, order of tableaus, OrderOf. | Plain: what the law of repeated tableaus says. No walk. | Walk: slices.Reverse at a list of numbers. | Walks: l10Scale of the reference. -/
import Derived.Test.YtofabikjjkapmaaGreatCo15
import Derived.Test.YtofabikjjkapmaaGreatCo6
import Derived.Test.YtofabikjjkapmaaGreatCo8
import Derived.Test.YtofabikjjkapmaaGreatCo7
import Derived.Test.YtofabikjjkapmaaGreatCo16
import Derived.Test.YtofabikjjkapmaaGreatCo18
import Derived.Test.YtofabikjjkapmaaGreatCo9
import Derived.Test.YtofabikjjkapmaaGreatCo12
import Derived.Test.YtofabikjjkapmaaGreatCo17
import Derived.Test.YtofabikjjkapmaaGreatCo13
set_option maxRecDepth 100000
set_option linter.unusedVariables false
set_option linter.unusedSimpArgs false
namespace Go.Proofs.YtofabikjjkapmaaGreat
open Go.RowKit

theorem mod_num' (x : Int) : 0 ≤ x % 10007 ∧ x % 10007 ≤ 10006 := by omega
theorem sgtrans {w w1 w2 : World} {b : Option Nat} (h : w.grownBy w1 b) (h' : w1.grownBy w2 b) : w.grownBy w2 b :=
  ⟨h'.os.trans h.os, h'.tape.trans h.tape, h'.output.trans h.output, Nat.le_trans h.size h'.size, fun k hk hne => (h'.block k (Nat.lt_of_lt_of_le hk h.size) hne).trans (h.block k hk hne)⟩
theorem sgof {w w' : World} {r : Option Nat} (h : Below w.heap.size w w') : w.grownBy w' r := ⟨h.os, h.tape, h.output, h.size, fun k hk _ => h.block k hk⟩
theorem Own.keptLt {w w' : World} {B g : Nat} {e : TypeId} {v : Value} {vs : List Value} (h : Own w B e v vs) (hg : w.grownBy w' (some g)) (hlt : g < B) : Own w' B e v vs := h.kept hg (by
  cases hb : v.ownBlock with
  | none => exact .inl rfl
  | some b => exact .inr fun e => by injection e with e; have := h.ge b hb; omega)
theorem LL.keptLt {w w' : World} {B g : Nat} {v : Value} {xss : List (List Int)} (h : LL w B v xss) (hg : w.grownBy w' (some g)) (hlt : g < B) : LL w' B v xss := by
  obtain ⟨vs, h1, h2⟩ := h
  exact ⟨vs, h1.keptLt hg hlt, h2.1, fun k u zs hu hz => ⟨(h2.2 k u zs hu hz).1.keptLt hg hlt, (h2.2 k u zs hu hz).2⟩⟩
/-- a row of a list of trees -/
theorem Rows.treeB {w : World} {A : Option Addr} {n c : Nat} {F : List (List Nat)} (h : Rows w (.slice A n c) (F.map up)) {i : Nat} (hi : i < n) :
    ∃ ad At ct t, A = some ad ∧ F[i]? = some t ∧ Ints w (.slice At t.length ct) (up t) ∧ w.cell? (ad.add i) = some (.slice At t.length ct) := by
  obtain ⟨A', c', he, -, -, h3⟩ := h.open_
  simp only [Value.slice.injEq] at he
  obtain ⟨rfl, hn, rfl⟩ := he
  obtain ⟨ad, u, zs, hA, hz, hu, hc⟩ := h3 i (by omega)
  rw [List.getElem?_map] at hz
  cases ht : F[i]? with
  | none => rw [ht] at hz; cases hz
  | some t =>
    rw [ht] at hz
    injection hz with hz
    subst hz
    obtain ⟨Au, cu, rfl, -, -, -⟩ := hu.open_
    rw [up_len] at hu hc
    exact ⟨ad, Au, cu, t, hA, rfl, hu, hc⟩
def okTl (n : Nat) : Bool := Nat.ble (tr n).length 6 && (tr n).all fun l => Nat.ble l 6
theorem tl1 : (List.range 37).all okTl = true := by decide +kernel
theorem tl_at {n : Nat} (h : n < 37) : (tr n).length ≤ 6 ∧ ∀ l ∈ tr n, l ≤ 1000000 := by
  have h1 := tl1
  rw [List.all_eq_true] at h1
  have h2 := h1 n (List.mem_range.2 h)
  unfold okTl at h2
  rw [Bool.and_eq_true, List.all_eq_true] at h2
  exact ⟨Nat.le_of_ble_eq_true h2.1, fun l hl => by have := Nat.le_of_ble_eq_true (h2.2 l hl); omega⟩
set_option maxHeartbeats 32000000 in
theorem im_stageWeights {A : List (List Int)} {Bs : List Int} (hT : SqT A Bs Bs.length) (h1 : 1 ≤ Bs.length) (h8 : Bs.length ≤ 8) : ∀ (m n : Nat), n < m → n < 37 → ∀ (w : World) (va vt : Value), TabArg w va A Bs → Ints w vt (up (tr n)) →
    Calls Tryz.prog 195 #[va, vt] w fun e w' => ∃ x, e = .returned x ∧ OwnInts w' w.heap.size tI x (stL A Bs.length (n + 1)) ∧ Below w.heap.size w w' := by
  intro m
  induction m with
  | zero => intro n h; omega
  | succ m ih =>
    intro n hnm hn37 w va vt ha ht
    have IH := Lib.hid ih
    obtain ⟨bs, hbr, hball, hbt⟩ := br_bt hn37
    obtain ⟨htl, hlv⟩ := tl_at hn37
    have HSE := Lib.hid (stB_end A Bs.length hn37 hbt)
    have HBL := Lib.hid hball
    have HTT := Lib.hid hT
    obtain ⟨va1, vb1, rfl, ha1, ha2⟩ := ha
    obtain ⟨A1, c1, rfl, -, -, -⟩ := ha1.open_
    obtain ⟨A2, c2, rfl, -, -, -⟩ := ha2.open_
    obtain ⟨At, ct, rfl, -, -, -⟩ := ht.open_
    have HAL := Lib.hid (show A.length ≤ 1000 from by rw [hT.la]; omega)
    rw [up_len] at ht ⊢
    obtain ⟨W, hW⟩ : ∃ W, W = w.alloc (.cells #[.slice A1 A.length c1, .slice A2 Bs.length c2] 37) := ⟨_, rfl⟩
    have hbw : Below w.heap.size w W := by rw [hW]; exact below1 w _
    have HSZW := Lib.hid (show W.heap.size = w.heap.size + 1 from by rw [hW]; simp)
    have HBW := Lib.hid hbw
    have HK := Lib.hid (show Blk W w.heap.size 37 #[.slice A1 A.length c1, .slice A2 Bs.length c2] from by rw [hW]; exact Blk.new _ _ _)
    have HTA := Lib.hid (show TabArg W (.agg #[.slice A1 A.length c1, .slice A2 Bs.length c2]) A Bs from ⟨_, _, rfl, ha1.below hbw, ha2.below hbw⟩)
    have HTR := Lib.hid (ht.below hbw)
    have k0 : ∀ o, (W.alloc o).cell? ⟨w.heap.size, 0, none⟩ = some (.slice A1 A.length c1) := fun o => (HK.out.alloc o).cell 0
    have k1 : ∀ o, (W.alloc o).cell? ⟨w.heap.size, 1, none⟩ = some (.slice A2 Bs.length c2) := fun o => (HK.out.alloc o).cell 1
    clear ha1 ha2 ht ih hbt hball hT hbw
    go_enter Tryz.func195, Tryz.ntmps195
    go_upto_region 1 with fail
    rw [← hW]
    clear hW
    have HL1 := Lib.hid (show Ints (W.alloc (.cells #[.int .i64 1] tI)) (.slice (some ⟨W.heap.size, 0, none⟩) 1 1) [1] from ⟨(own_lit W tI [.int .i64 1] (by simp [maxLen])).cells, fun z hz => by simp at hz; subst hz; unfold In64; omega⟩)
    have HB1 := Lib.hid (below1 W (.cells #[.int .i64 1] tI))
    go_upto_region 3 with (first
      | (go_at_call 86; go_loud ((with_reducible refine (im_stages _ _ A Bs (HTA.out.below HB1.out)).mono ?_); rintro e w2 ⟨rfl, hb2⟩; have HB2 := Lib.hid (HB1.out.trans (hb2.mono HB1.out.size)); have HL2 := Lib.hid (HL1.out.below hb2); clear hb2))
      | (go_at_call 235; go_loud ((with_reducible refine (lib_Repeat1 _ _ 1 Bs.length HL2.out h1 h8).mono ?_); rintro e w3 ⟨x3, rfl, ho3, hb3⟩; rcases ho3.1.cases with ⟨-, he⟩ | ⟨g, cap, cur, he, hga, hgb, -⟩; (· have h5 := congrArg List.length he; rw [ints_len, List.length_replicate, List.length_nil] at h5; omega); rw [ints_len, List.length_replicate] at he; subst he; have HO3 := Lib.hid ho3; have HB3 := Lib.hid (HB2.out.trans (hb3.mono HB2.out.size)); have HB23 := Lib.hid hb3; clear ho3 hb3))
      | (go_at_call 116; go_loud ((with_reducible refine (i_branchesOf _ _ (tr n) bs (HTR.out.below HB3.out) hbr (by omega) hlv).mono ?_); rintro e w4 ⟨x4, rfl, hl4, hb4⟩; obtain ⟨A4, c4, he4, -, -, -⟩ := hl4.rows.open_; rw [List.length_map] at he4; subst he4; have HL4 := Lib.hid hl4; have HO4 := Lib.hid (HO3.out.below hb4); have HB4 := Lib.hid (HB3.out.trans (hb4.mono HB3.out.size)); have HB24 := Lib.hid (HB23.out.trans (hb4.mono HB23.out.size)); have hg3 : g < w3.heap.size := hgb; have hg4 : g < w4.heap.size := (Nat.lt_of_lt_of_le hgb hb4.size); clear hl4 hb4)))
    have hWg : W.heap.size ≤ g := Nat.le_trans HB2.out.size hga
    have HT2 := Lib.hid (HTA.out.below HB2.out)
    have HK2 := Lib.hid (HK.out.below HB2.out (by have := HSZW.out; omega))
    have HO0 := Lib.hid (show OwnInts w4 w2.heap.size tI (.slice (some ⟨g, 0, none⟩) Bs.length cap) (stB A Bs.length ((bs.map (idxN T6n)).take 0)) from by rw [List.take_zero, stB_nil]; exact HO4.out)
    clear k0 k1 HL1 HL2 HO3 HO4 hgb HTR
    have HBS := Lib.hid (show bs.length ≤ 1000 from (brO_lens hbr (N := 1000) (by omega)).1)
    have hbs := HBS.out
    generalize hs : Bs.length = s at *
    have HS := Lib.hid hs
    clear hs
    go_loopw [17] (fun x wr => ∃ j : Nat, j ≤ bs.length ∧ x = .int .i64 j ∧ OwnInts wr w2.heap.size tI (.slice (some ⟨g, 0, none⟩) s cap) (stB A s ((bs.map (idxN T6n)).take j)) ∧ w4.grownBy wr (some g) ∧ Below w2.heap.size w2 wr) (fun x _ => bs.length - (intOf x).toNat)
    case atStart => exact ⟨0, Nat.zero_le _, rfl, HO0.out, World.grownBy.refl _ _, HB24.out⟩
    case round =>
      obtain ⟨j, hj, rfl, ho, hg, hb⟩ := hrel
      rename World => wq
      clear HO0 HB24
      have HO := Lib.hid ho
      have HG := Lib.hid hg
      have HB := Lib.hid hb
      clear ho hg hb
      by_cases hlt : j < bs.length
      · obtain ⟨ad, Ab, cb, b, rfl, hb, hbi, hcb⟩ := (HL4.out.keptLt HG.out hg3).rows.treeB hlt
        obtain ⟨e1, e2, e3⟩ := HBL.out b (List.mem_of_getElem? hb)
        obtain ⟨p, hp⟩ : ∃ p, idxN T6n b = p + 1 := ⟨idxN T6n b - 1, by omega⟩
        rw [hp] at e2 e3
        rw [Nat.add_sub_cancel] at e3
        have HQT := Lib.hid (show (bs.map (idxN T6n)).take (j + 1) = (bs.map (idxN T6n)).take j ++ [p + 1] from by rw [List.take_add_one, List.getElem?_map, hb, Option.map_some, hp]; rfl)
        have HROW := Lib.hid hbi
        have HTQ := Lib.hid (HT2.out.below HB.out)
        have HKQ := Lib.hid (HK2.out.below HB.out (by have := HB2.out.size; have := HSZW.out; omega))
        have HSW := Lib.hid (show ∀ X, Below wq.heap.size wq X → Calls Tryz.prog 195 #[.agg #[.slice A1 A.length c1, .slice A2 s c2], .slice Ab b.length cb] X (fun e w' => ∃ x, e = .returned x ∧ OwnInts w' wq.heap.size tI x (stL A s (p + 1)) ∧ Below wq.heap.size wq w') from fun X hX => by
          have h := IH.out p (by omega) (by omega) X (.agg #[.slice A1 A.length c1, .slice A2 s c2]) (.slice Ab b.length cb) (HTQ.out.below hX) (by rw [e3]; exact HROW.out.below hX)
          refine h.mono ?_
          rintro e w5 ⟨r5, rfl, ho5, hb5⟩
          exact ⟨r5, rfl, ho5.mono hX.size, hX.trans (hb5.mono hX.size)⟩)
        have HAP := Lib.hid (show ∀ X r, Below wq.heap.size wq X → Ints X r (stL A s (p + 1)) → Calls Tryz.prog 236 #[.agg #[.slice A1 A.length c1, .slice A2 s c2], r] X (fun e w' => ∃ x, e = .returned x ∧ OwnInts w' wq.heap.size tI x (apL A s (p + 1)) ∧ Below wq.heap.size wq w') from fun X r hX hr => by
          have h := im_applied X (.agg #[.slice A1 A.length c1, .slice A2 s c2]) r A Bs (stL A s (p + 1)) (HTQ.out.below hX) hr (fun r hr => ⟨(HTT.out.rows r hr).1, by rw [stL_len, (HTT.out.rows r hr).2]; exact Nat.le_refl _⟩) (stL_nums _ _ _) HAL.out (by rw [stL_len]; omega)
          rw [mulR_st HTT.out (Nat.succ_pos p)] at h
          refine h.mono ?_
          rintro e w5 ⟨r5, rfl, ho5, hb5⟩
          exact ⟨r5, rfl, ho5.mono hX.size, hX.trans (hb5.mono hX.size)⟩)
        have hii : (j : Int) < (bs.length : Int) := by omega
        have q0 : wq.cell? ⟨w.heap.size, 0, none⟩ = some (.slice A1 A.length c1) := HKQ.out.cell 0
        have q1 : wq.cell? ⟨w.heap.size, 1, none⟩ = some (.slice A2 s c2) := HKQ.out.cell 1
        clear hb hbi e1 e2 e3 hp
        go_upto_region 5 with fail
        go_cut [25, 26, 27] (fun a b c wx => ((∃ A6 c6, a = .slice A6 s c6 ∧ OwnInts wx wq.heap.size tI (.slice A6 s c6) (apL A s (p + 1))) ∧ b = .int .i64 (s : Nat) ∧ c = .int .i64 0) ∧ Below wq.heap.size wq wx)
        case first =>
          go_region_law (first
            | (go_simp; go_at_call 195; (with_reducible refine ((HSW.out _ ?_).mono ?_)); (first | exact Below.refl _ _ | exact (Below.refl _ _).drew); go_loud (rintro e w5 ⟨r5, rfl, ho5, hb5⟩; have HO5 := Lib.hid ho5; have HB5 := Lib.hid hb5; have m1 : w5.cell? ⟨w.heap.size, 0, none⟩ = some (.slice A1 A.length c1) := (HKQ.out.below hb5 HKQ.out.lt).cell 0; have m2 : w5.cell? ⟨w.heap.size, 1, none⟩ = some (.slice A2 s c2) := (HKQ.out.below hb5 HKQ.out.lt).cell 1; clear ho5 hb5))
            | (go_simp; go_at_call 236; (with_reducible refine ((HAP.out _ _ ?_ ?_).mono ?_)); (first | exact HB5.out | exact HB5.out.drew); (exact HO5.out.ints); go_loud (rintro e w6 ⟨r6, rfl, ho6, hb6⟩; obtain ⟨A6, c6, he6, -, -, -⟩ := ho6.ints.open_; rw [apL_len] at he6; subst he6; have HB6 := Lib.hid hb6; have HO6 := Lib.hid ho6; clear ho6 hb6)))
          all_goals
            go_wp2_with fail
            go_meet
            exact ⟨⟨⟨_, _, rfl, HO6.out⟩, rfl, rfl⟩, HB6.out⟩
        case rest =>
          obtain ⟨⟨⟨A6, c6, rfl, ho6⟩, rfl, rfl⟩, hb6⟩ := hcut
          rename World => w6
          have HO6 := Lib.hid ho6
          have HB6 := Lib.hid hb6
          clear ho6 hb6
          obtain ⟨qs, hqs⟩ : ∃ qs, qs = (bs.map (idxN T6n)).take j := ⟨_, rfl⟩
          rw [← hqs] at HO HQT
          have HO7 := Lib.hid (show OwnInts w6 w2.heap.size tI (.slice (some ⟨g, 0, none⟩) s cap) (mxL A s qs (p + 1) 0) from by rw [mxL_zero]; exact HO.out.below HB6.out)
          have HG6 := Lib.hid (sgtrans HG.out (sgof (r := some g) HB6.out))
          have HB26 := Lib.hid (HB.out.trans (HB6.out.mono HB.out.size))
          have hgq : g < wq.heap.size := Nat.lt_of_lt_of_le hg4 HG.out.size
          clear hqs q0 q1
          go_wp2_with fail
          go_loopw [27] (fun x wr => ∃ i : Nat, i ≤ s ∧ x = .int .i64 i ∧ OwnInts wr w2.heap.size tI (.slice (some ⟨g, 0, none⟩) s cap) (mxL A s qs (p + 1) i) ∧ w6.grownBy wr (some g) ∧ Below w2.heap.size w2 wr) (fun x _ => s - (intOf x).toNat)
          case atStart => exact ⟨0, Nat.zero_le _, rfl, HO7.out, World.grownBy.refl _ _, HB26.out⟩
          case round =>
            obtain ⟨i, hi, rfl, ho, hg, hb⟩ := hrel
            rename World => wc
            clear HO7
            have HO8 := Lib.hid ho
            have HG8 := Lib.hid hg
            have HB8 := Lib.hid hb
            clear ho hg hb
            by_cases hli : i < s
            · obtain ⟨A6', c6', he, -, -, h6⟩ := (show Ints wc (.slice A6 s c6) (apL A s (p + 1)) from ⟨(HO6.out.1.keptLt HG8.out hgq).cells, HO6.out.2⟩).open_
              rw [apL_len] at he h6
              simp only [Value.slice.injEq, true_and] at he
              obtain ⟨rfl, rfl⟩ := he
              obtain ⟨a6, y, rfl, hy, -, hcy⟩ := h6 i hli
              rw [apL_get A s (p + 1) hli] at hy
              injection hy with hy
              have hxg := ints_get (mxL_get A s qs (p + 1) hli)
              obtain ⟨u0, hu0, hcg, hfg, -, -, hown', hgr⟩ := HO8.out.1.storeAt (k := i) (by rw [ints_len, mxL_len A s qs (p + 1) i (by omega)]; exact hli) (.int .i64 (pz (uV s (fT A) i) qs % 10007 * (uV s (fT A) i (p + 1) % 10007) % 10007))
              rw [hxg] at hu0
              injection hu0 with hu0
              have HST := Lib.hid (show OwnInts (wc.setCell ⟨g, i, none⟩ (.int .i64 (pz (uV s (fT A) i) qs % 10007 * (uV s (fT A) i (p + 1) % 10007) % 10007))) w2.heap.size tI (.slice (some ⟨g, 0, none⟩) s cap) (mxL A s qs (p + 1) (i + 1)) from by
                rw [← mxL_step A s qs (p + 1) hli]
                refine ⟨by rw [show (ints (mxL A s qs (p + 1) i)).set i (.int .i64 (pz (uV s (fT A) i) qs % 10007 * (uV s (fT A) i (p + 1) % 10007) % 10007)) = ints ((mxL A s qs (p + 1) i).set i (pz (uV s (fT A) i) qs % 10007 * (uV s (fT A) i (p + 1) % 10007) % 10007)) by simp [ints, List.map_set]] at hown'; exact hown', fun z hz => ?_⟩
                rcases List.mem_or_eq_of_mem_set hz with hz | rfl
                · exact HO8.out.2 z hz
                · unfold In64; omega)
              have HGR := Lib.hid hgr
              have hx := mod_num' (pz (uV s (fT A) i) qs)
              have hy2 := mod_num' (uV s (fT A) i (p + 1))
              rw [hy] at hy2 HST HGR
              clear hown' hgr hxg hy h6
              generalize pz (uV s (fT A) i) qs % 10007 = x at *
              subst hu0
              obtain ⟨m, hm⟩ : ∃ m, m = x * y := ⟨_, rfl⟩
              obtain ⟨p1, p2⟩ := mul_bd 10006 10006 hx.1 hx.2 hy2.1 hy2.2
              have hw1 : wrap64 (x * y) = m := by rw [← hm]; exact w64_in' _ (by omega)
              have hw2 : IntKind.i64.wrap (x * y) = m := by rw [← hm]; exact IntWalk.i64_in _ (by omega)
              rw [← hm] at HST HGR p1 p2
              have hii : (i : Int) < (s : Int) := by omega
              clear hm hx hy2
              go_wp2_with (go_at_call 56; refine (i_num m _ (by omega) (by omega)).mono ?_; rintro e w' ⟨rfl, rfl⟩)
              go_roundw
              case rel => exact ⟨i + 1, by omega, by go_num, HST.out, sgtrans HG8.out HGR.out, HB8.out.grown HGR.out HB8.out.size (by rintro b ⟨⟩; exact hga)⟩
              case measure => simp [intOf]; omega
            · have his : i = s := by omega
              subst his
              have hii : ¬ ((i : Int) < (i : Int)) := by omega
              rw [mxL_full, ← HQT.out] at HO8
              go_wp2_with fail
              go_roundw
              case rel => exact ⟨j + 1, by omega, by go_num, HO8.out, sgtrans HG6.out HG8.out, HB8.out⟩
              case measure => simp [intOf]; omega
      · have hjl : (bs.map (idxN T6n)).take j = bs.map (idxN T6n) := List.take_of_length_le (by rw [List.length_map]; omega)
        have hii : ¬ ((j : Int) < (bs.length : Int)) := by omega
        rw [hjl, HSE.out] at HO
        clear hjl
        go_wp2_with fail
        go_ret
        have hws : w.heap.size ≤ w2.heap.size := by have := HB2.out.size; have := HSZW.out; omega
        have hbz := HBW.out.trans ((HB2.out.trans (HB.out.mono HB2.out.size)).mono HBW.out.size)
        have hoz := HO.out.mono hws
        refine ⟨.slice (some ⟨g, 0, none⟩) s cap, ?_, ?_, hbz⟩
        · rfl
        · rw [HS.out]
          exact hoz
end Go.Proofs.YtofabikjjkapmaaGreat

set_option maxRecDepth 100000
set_option linter.unusedVariables false
set_option linter.unusedSimpArgs false
namespace Go.Proofs.YtofabikjjkapmaaGreat
open Go.RowKit

theorem chT_at (A : List (List Int)) (B : List Int) {p : Nat} (hp : p < 38) : (chT A B).getD p 0 = wgtT B.length (fT A) (fB B) p % 10007 := chF_at _ _ _ hp
theorem chT_len (A : List (List Int)) (B : List Int) : (chT A B).length = 38 := chF_len _ _ _
theorem chT_bd (A : List (List Int)) (B : List Int) {p : Nat} (hp : p < 38) : 0 ≤ (chT A B).getD p 0 ∧ (chT A B).getD p 0 ≤ 10006 := by
  rw [chT_at A B hp]; omega
theorem chT_zero (A : List (List Int)) (B : List Int) : (chT A B).getD 0 0 = 1 := by
  rw [chT_at A B (by omega)]
  unfold wgtT
  rw [if_pos rfl]
  rfl
theorem EX_at' {n : Nat} (h : n < 37) : EX.getD (n + 1) 0 = ((exV (tr n) : Nat) : Int) := by
  rw [List.getD_eq_getElem?_getD, EX_succ (tr_get h)]
  rfl
set_option maxHeartbeats 4000000 in
theorem im_weight {A : List (List Int)} {Bs : List Int} (hT : SqT A Bs Bs.length) (h1 : 1 ≤ Bs.length) (h8 : Bs.length ≤ 8) (n : Nat) (hn : n < 37) (w : World) (va vt : Value) (ha : TabArg w va A Bs) (ht : Ints w vt (up (tr n))) :
    Calls Tryz.prog 148 #[va, vt] w fun e w' => e = .returned (.int .i64 ((chT A Bs).getD (n + 1) 0)) ∧ Below w.heap.size w w' := by
  obtain ⟨va1, vb1, rfl, ha1, ha2⟩ := ha
  obtain ⟨A1, c1, rfl, -, -, -⟩ := ha1.open_
  obtain ⟨A2, c2, rfl, -, -, -⟩ := ha2.open_
  obtain ⟨At, ct, rfl, -, -, -⟩ := ht.open_
  rw [up_len] at ht ⊢
  have HZ := Lib.hid (show dtZ Bs (stL A Bs.length (n + 1)) = (chT A Bs).getD (n + 1) 0 from by
    rw [chT_at A Bs (by omega), ← b_st A Bs (Nat.succ_pos n)]
    rfl)
  obtain ⟨W, hW⟩ : ∃ W, W = w.alloc (.cells #[.slice A1 A.length c1, .slice A2 Bs.length c2] 37) := ⟨_, rfl⟩
  have hbw : Below w.heap.size w W := by rw [hW]; exact below1 w _
  have HBW := Lib.hid hbw
  have HKF := Lib.hid (show Blk W w.heap.size 37 #[.slice A1 A.length c1, .slice A2 Bs.length c2] from by rw [hW]; exact Blk.new _ _ _)
  have HTA := Lib.hid (show TabArg W (.agg #[.slice A1 A.length c1, .slice A2 Bs.length c2]) A Bs from ⟨_, _, rfl, ha1.below hbw, ha2.below hbw⟩)
  have HBI := Lib.hid (ha2.below hbw)
  have HTR := Lib.hid (ht.below hbw)
  have HNB := Lib.hid hT.ws
  have HC1 := Lib.hid (show ∀ X, Below W.heap.size W X → Calls Tryz.prog 195 #[.agg #[.slice A1 A.length c1, .slice A2 Bs.length c2], .slice At (tr n).length ct] X (fun e w' => ∃ x, e = .returned x ∧ OwnInts w' W.heap.size tI x (stL A Bs.length (n + 1)) ∧ Below W.heap.size W w') from fun X hX => by
    have h := im_stageWeights hT h1 h8 (n + 1) n (by omega) hn X _ _ (HTA.out.below hX) (HTR.out.below hX)
    refine h.mono ?_
    rintro e w5 ⟨r5, rfl, ho5, hb5⟩
    exact ⟨r5, rfl, ho5.mono hX.size, hX.trans (hb5.mono hX.size)⟩)
  have HC2 := Lib.hid (show ∀ X r, Below W.heap.size W X → Ints X r (stL A Bs.length (n + 1)) → Calls Tryz.prog 194 #[.slice A2 Bs.length c2, r] X (fun e w' => e = .returned (.int .i64 ((chT A Bs).getD (n + 1) 0)) ∧ Below W.heap.size W w') from fun X r hX hr => by
    have h := i_dot X (.slice A2 Bs.length c2) r Bs _ (HBI.out.below hX) hr HNB.out (stL_nums _ _ _) (by rw [stL_len]; exact Nat.le_refl _) (by omega)
    rw [HZ.out] at h
    refine h.mono ?_
    rintro e w5 ⟨rfl, rfl⟩
    exact ⟨rfl, hX⟩)
  clear ha1 ha2 ht hT hbw
  generalize (chT A Bs).getD (n + 1) 0 = cc at *
  go_enter Tryz.func148, Tryz.ntmps148
  go_upto_region 1 with fail
  rw [← hW]
  clear hW
  have q0 : W.cell? ⟨w.heap.size, 0, none⟩ = some (.slice A1 A.length c1) := HKF.out.cell 0
  have q1 : W.cell? ⟨w.heap.size, 1, none⟩ = some (.slice A2 Bs.length c2) := HKF.out.cell 1
  go_region_law (first
    | (go_simp; go_at_call 195; (with_reducible refine ((HC1.out _ ?_).mono ?_)); (first | exact Below.refl _ _ | exact (Below.refl _ _).drew); go_loud (rintro e w5 ⟨r5, rfl, ho5, hb5⟩; have HO5 := Lib.hid ho5; have HB5 := Lib.hid hb5; have m1 : w5.cell? ⟨w.heap.size, 0, none⟩ = some (.slice A1 A.length c1) := (HKF.out.below hb5 HKF.out.lt).cell 0; have m2 : w5.cell? ⟨w.heap.size, 1, none⟩ = some (.slice A2 Bs.length c2) := (HKF.out.below hb5 HKF.out.lt).cell 1; clear ho5 hb5))
    | (go_simp; go_at_call 194; (with_reducible refine ((HC2.out _ _ ?_ ?_).mono ?_)); (first | exact HB5.out | exact HB5.out.drew); (exact HO5.out.ints); go_loud (rintro e w6 ⟨rfl, hb6⟩; have HB6 := Lib.hid hb6; clear hb6)))
  all_goals
    go_wp2_with fail
    go_ret
    exact ⟨rfl, HBW.out.trans (HB6.out.mono HBW.out.size)⟩
set_option maxHeartbeats 4000000 in
theorem im_lacking {A : List (List Int)} {Bs : List Int} (hT : SqT A Bs Bs.length) (h1 : 1 ≤ Bs.length) (h8 : Bs.length ≤ 8) (n : Nat) (hn : n < 37) (w : World) (va vt : Value) (ha : TabArg w va A Bs) (ht : Ints w vt (up (tr n))) :
    Calls Tryz.prog 141 #[va, vt] w fun e w' => e = .returned (.int .i64 (((chT A Bs).getD (n + 1) 0 - EX.getD (n + 1) 0) % 10007)) ∧ Below w.heap.size w w' := by
  obtain ⟨va1, vb1, rfl, ha1, ha2⟩ := ha
  obtain ⟨A1, c1, rfl, -, -, -⟩ := ha1.open_
  obtain ⟨A2, c2, rfl, -, -, -⟩ := ha2.open_
  obtain ⟨At, ct, rfl, -, -, -⟩ := ht.open_
  rw [up_len] at ht ⊢
  obtain ⟨dn, hd1, hd2, hd3, -, hd4⟩ := T6n_den (tr_mem hn)
  obtain ⟨htl, hlv⟩ := tl_at hn
  have hdp : pw (dn : Int) 10005 = EX.getD (n + 1) 0 := by rw [EX_at' hn]; exact exV_pw hd1
  have HTA := Lib.hid (show TabArg (w.alloc (.cells #[.slice A1 A.length c1, .slice A2 Bs.length c2] 37)) (.agg #[.slice A1 A.length c1, .slice A2 Bs.length c2]) A Bs from ⟨_, _, rfl, ha1.below (below1 w _), ha2.below (below1 w _)⟩)
  have HTR := Lib.hid (ht.below (below1 w (.cells #[.slice A1 A.length c1, .slice A2 Bs.length c2] 37)))
  have HB1 := Lib.hid (below1 w (.cells #[.slice A1 A.length c1, .slice A2 Bs.length c2] 37))
  have HW := Lib.hid (im_weight hT h1 h8 n hn _ _ _ HTA.out HTR.out)
  have HDE := Lib.hid (fun X (hX : Ints X (.slice At (tr n).length ct) (up (tr n))) => i_density 9 X _ (tr n) dn hX hd1 (by omega) hlv)
  have hcb := chT_bd A Bs (p := n + 1) (by omega)
  have hE1 : 0 ≤ EX.getD (n + 1) 0 ∧ EX.getD (n + 1) 0 ≤ 10006 := by rw [← hdp]; exact pw_bd _ _
  have HDP := Lib.hid hdp
  have hdm : (dn : Int) % 10007 = (dn : Int) := by omega
  generalize (chT A Bs).getD (n + 1) 0 = cc at *
  generalize EX.getD (n + 1) 0 = ee at *
  have HIV := Lib.hid (fun X => show Calls Tryz.prog 99 #[.int .i64 (dn : Int)] X fun e w' => e = .returned (.int .i64 ee) ∧ X = w' from by
    have h := i_inv (dn : Int) X (by omega) (by omega)
    rwa [HDP.out] at h)
  have HNM := Lib.hid (fun X => show Calls Tryz.prog 56 #[.int .i64 (dn : Int)] X fun e w' => e = .returned (.int .i64 (dn : Int)) ∧ X = w' from by
    have h := i_num (dn : Int) X (by omega) (by omega)
    rwa [hdm] at h)
  have hw1 : wrap64 (cc - ee) = cc - ee := w64_in' _ (by omega)
  have hw2 : IntKind.i64.wrap (cc - ee) = cc - ee := IntWalk.i64_in _ (by omega)
  have hcb' : -4000000000000000000 ≤ cc - ee ∧ cc - ee ≤ 4000000000000000000 := by omega
  clear ha1 ha2 ht hd1 hdp hd4 hcb hE1
  go_enter Tryz.func141, Tryz.ntmps141
  go_wp2_with (first
    | (go_at_call 148; go_loud (refine HW.out.mono ?_; rintro e w2 ⟨rfl, hb2⟩; have HB2 := Lib.hid (HB1.out.trans (hb2.mono HB1.out.size)); have HTR2 := Lib.hid (HTR.out.below hb2); clear hb2))
    | (go_at_call 58; go_loud (refine (HDE.out _ HTR2.out).mono ?_; rintro e w3 ⟨rfl, hb3⟩; have HB3 := Lib.hid (HB2.out.trans (hb3.mono HB2.out.size)); clear hb3))
    | (go_at_call 99; refine (HIV.out _).mono ?_; rintro e w4 ⟨rfl, rfl⟩)
    | (go_at_call 56; (with_reducible refine (HNM.out _).mono ?_); rintro e w4 ⟨rfl, rfl⟩)
    | (go_at_call 56; refine (i_num (cc - ee) _ hcb'.1 hcb'.2).mono ?_; rintro e w4 ⟨rfl, rfl⟩))
  go_ret
  exact ⟨rfl, HB3.out⟩
set_option maxHeartbeats 8000000 in
theorem im_order {A : List (List Int)} {Bs : List Int} (hT : SqT A Bs Bs.length) (h1 : 1 ≤ Bs.length) (h8 : Bs.length ≤ 8) (w : World) (va : Value) (ha : TabArg w va A Bs) :
    Calls Tryz.prog 78 #[va] w fun e w' => e = .returned (.int .i64 (agZ (chT A Bs) EX)) ∧ Below w.heap.size w w' := by
  obtain ⟨va1, vb1, rfl, ha1, ha2⟩ := ha
  obtain ⟨A1, c1, rfl, -, -, -⟩ := ha1.open_
  obtain ⟨A2, c2, rfl, -, -, -⟩ := ha2.open_
  obtain ⟨W, hW⟩ : ∃ W, W = w.alloc (.cells #[.slice A1 A.length c1, .slice A2 Bs.length c2] 37) := ⟨_, rfl⟩
  have hbw : Below w.heap.size w W := by rw [hW]; exact below1 w _
  have HBW := Lib.hid hbw
  have HKF := Lib.hid (show Blk W w.heap.size 37 #[.slice A1 A.length c1, .slice A2 Bs.length c2] from by rw [hW]; exact Blk.new _ _ _)
  have HTA := Lib.hid (show TabArg W (.agg #[.slice A1 A.length c1, .slice A2 Bs.length c2]) A Bs from ⟨_, _, rfl, ha1.below hbw, ha2.below hbw⟩)
  have HLK := Lib.hid (fun n (hn : n < 37) => im_lacking hT h1 h8 n hn)
  have HI0 := Lib.hid (show ∀ i, i < 0 + 1 → (chT A Bs).getD i 0 = EX.getD i 0 from fun i hi => by
    have : i = 0 := by omega
    subst this
    exact chT_zero A Bs)
  clear ha1 ha2 hbw
  go_enter Tryz.func78, Tryz.ntmps78
  go_upto_region 1 with fail
  rw [← hW]
  clear hW
  go_wp2_with (go_at_call 91; go_loud (refine (i_treesTo _ 6 (by omega)).mono ?_; rintro e w3 ⟨x3, rfl, hl3, hb3⟩; rw [show allG treesN 6 = T6n from rfl] at hl3; obtain ⟨A3, c3, he3, -, -, -⟩ := hl3.rows.open_; rw [List.length_map, T6n_len] at he3; subst he3; have HX3 := Lib.hid hl3.rows; have HB3 := Lib.hid hb3; clear hl3 hb3))
  go_loopw [7] (fun x wr => ∃ i : Nat, i ≤ 37 ∧ x = .int .i64 i ∧ Hid (∀ k, k < i + 1 → (chT A Bs).getD k 0 = EX.getD k 0) ∧ Below w3.heap.size w3 wr) (fun x _ => 37 - (intOf x).toNat)
  case atStart => exact ⟨0, Nat.zero_le _, rfl, HI0.out, Below.refl _ _⟩
  case round =>
    obtain ⟨i, hi, rfl, HI, hb⟩ := hrel
    rename World => wq
    have HB := Lib.hid hb
    clear hb
    by_cases hlt : i < 37
    · obtain ⟨ad, At, ct, t, rfl, ht, hti, hcr⟩ := (HX3.out.below HB.out).treeB hlt
      have htr := tr_at ht
      subst htr
      have HTI := Lib.hid hti
      have HBQ := Lib.hid (HB3.out.trans (HB.out.mono HB3.out.size))
      have HKQ := Lib.hid (HKF.out.below HBQ.out HKF.out.lt)
      have q0 : wq.cell? ⟨w.heap.size, 0, none⟩ = some (.slice A1 A.length c1) := HKQ.out.cell 0
      have q1 : wq.cell? ⟨w.heap.size, 1, none⟩ = some (.slice A2 Bs.length c2) := HKQ.out.cell 1
      have HLC := Lib.hid (HLK.out i hlt wq _ _ (HTA.out.below HBQ.out) hti)
      have hSZ := tl_at hlt
      have HSN := Lib.hid (sz_tr hlt)
      have hcb := chT_bd A Bs (p := i + 1) (by omega)
      have hE1 : 0 ≤ EX.getD (i + 1) 0 ∧ EX.getD (i + 1) 0 ≤ 10006 := by rw [EX_at' hlt]; have := exV_le (tr i); omega
      have hii : (i : Int) < 37 := by omega
      have hln := hSZ.1
      clear hti ht hSZ
      by_cases hne : (chT A Bs).getD (i + 1) 0 = EX.getD (i + 1) 0
      · have HI2 := Lib.hid (show ∀ k, k < i + 1 + 1 → (chT A Bs).getD k 0 = EX.getD k 0 from fun k hk => by
          by_cases e : k < i + 1
          · exact HI.out k e
          · have : k = i + 1 := by omega
            subst this; exact hne)
        rw [show ((chT A Bs).getD (i + 1) 0 - EX.getD (i + 1) 0) % 10007 = 0 from by omega] at HLC
        clear hne hcb hE1
        go_wp2_with (go_at_call 141; go_loud (refine HLC.out.mono ?_; rintro e w5 ⟨rfl, hb5⟩; have HB5 := Lib.hid (HB.out.trans (hb5.mono HB.out.size)); clear hb5))
        go_roundw
        case rel => exact ⟨i + 1, by omega, by go_num, HI2.out, HB5.out⟩
        case measure => simp [intOf]; omega
      · have HR := Lib.hid (agZ_hit HI.out (by omega) hne)
        rw [HSN.out] at HR
        obtain ⟨dd, hdd⟩ : ∃ dd, dd = ((chT A Bs).getD (i + 1) 0 - EX.getD (i + 1) 0) % 10007 := ⟨_, rfl⟩
        have hdn : (dd != 0) = true := by
          have : dd ≠ 0 := by rw [hdd]; omega
          simp [this]
        rw [← hdd] at HLC
        have hw1 : wrap64 (((tr i).length : Int) - 1) = ((tr i).length : Int) - 1 := w64_in' _ (by omega)
        have hw2 : IntKind.i64.wrap (((tr i).length : Int) - 1) = ((tr i).length : Int) - 1 := IntWalk.i64_in _ (by omega)
        clear hne hcb hE1 hdd
        go_wp2_with (first
          | (go_at_call 141; go_loud (refine HLC.out.mono ?_; rintro e w5 ⟨rfl, hb5⟩; have HB5 := Lib.hid (HBQ.out.trans (hb5.mono HBQ.out.size)); have HT5 := Lib.hid (HTI.out.below hb5); clear hb5))
          | (go_at_call 59; (refine (lib_lengthI _ _ (up (tr i)) HT5.out).mono ?_); rw [up_len]; rintro e w6 ⟨rfl, rfl⟩))
        go_ret
        exact ⟨ret_i64 HR.out.symm, HBW.out.trans (HB5.out.mono HBW.out.size)⟩
    · have hil : i = 37 := by omega
      subst hil
      have HR := Lib.hid (agZ_miss (show ∀ k, k < 38 → (chT A Bs).getD k 0 = EX.getD k 0 from HI.out))
      go_wp2_with fail
      go_ret
      exact ⟨ret_i64 HR.out.symm, HBW.out.trans ((HB3.out.trans (HB.out.mono HB3.out.size)).mono HBW.out.size)⟩
/-- what OrderOf answers -/
def ordR (A : List (List Int)) (Bs : List Int) : Int := if tabB A Bs then agZ (chT A Bs) EX else 0
set_option maxHeartbeats 2000000 in
theorem i_OrderOf (w : World) (v : Value) (A : List (List Int)) (Bs : List Int) (ha : TabArg w v A Bs) :
    Calls Tryz.prog 27 #[v] w fun e w' => e = .returned (.tuple #[.int .i64 (ordR A Bs), .int .i64 (tabC A Bs)]) ∧ Below w.heap.size w w' := by
  obtain ⟨va1, vb1, rfl, ha1, ha2⟩ := ha
  obtain ⟨A1, c1, rfl, -, -, -⟩ := ha1.open_
  obtain ⟨A2, c2, rfl, -, -, -⟩ := ha2.open_
  obtain ⟨W, hW⟩ : ∃ W, W = w.alloc (.cells #[.slice A1 A.length c1, .slice A2 Bs.length c2] 37) := ⟨_, rfl⟩
  have hbw : Below w.heap.size w W := by rw [hW]; exact below1 w _
  have HBW := Lib.hid hbw
  have HKF := Lib.hid (show Blk W w.heap.size 37 #[.slice A1 A.length c1, .slice A2 Bs.length c2] from by rw [hW]; exact Blk.new _ _ _)
  have HTA := Lib.hid (show TabArg W (.agg #[.slice A1 A.length c1, .slice A2 Bs.length c2]) A Bs from ⟨_, _, rfl, ha1.below hbw, ha2.below hbw⟩)
  have HIT := Lib.hid (i_IsTableau W _ A Bs HTA.out)
  clear ha1 ha2 hbw
  have q0 : W.cell? ⟨w.heap.size, 0, none⟩ = some (.slice A1 A.length c1) := HKF.out.cell 0
  have q1 : W.cell? ⟨w.heap.size, 1, none⟩ = some (.slice A2 Bs.length c2) := HKF.out.cell 1
  go_enter Tryz.func27, Tryz.ntmps27
  go_upto_region 1 with fail
  rw [← hW]
  clear hW
  cases hb : tabB A Bs with
  | false =>
    have HR := Lib.hid (show ordR A Bs = 0 by simp [ordR, hb])
    have HC := Lib.hid (show tabC A Bs = 1 by simp [tabC, hb])
    rw [hb] at HIT
    clear hb
    go_wp2_with (go_at_call 73; go_loud (refine HIT.out.mono ?_; rintro e w2 ⟨rfl, hb2⟩; have HB2 := Lib.hid hb2; clear hb2))
    go_ret2
    rw [HR.out, HC.out]
    exact ⟨rfl, HBW.out.trans (HB2.out.mono HBW.out.size)⟩
  | true =>
    have hI := isTab_of hb
    have HR := Lib.hid (show ordR A Bs = agZ (chT A Bs) EX by simp [ordR, hb])
    have HC := Lib.hid (show tabC A Bs = 0 by simp [tabC, hb])
    have HO := Lib.hid (fun X (hX : TabArg X (.agg #[.slice A1 A.length c1, .slice A2 Bs.length c2]) A Bs) => im_order (SqT.of hI) hI.lo hI.hi X _ hX)
    rw [hb] at HIT
    clear hb hI
    go_wp2_with (first
      | (go_at_call 73; go_loud (refine HIT.out.mono ?_; rintro e w2 ⟨rfl, hb2⟩; have HB2 := Lib.hid hb2; have m1 : w2.cell? ⟨w.heap.size, 0, none⟩ = some (.slice A1 A.length c1) := (HKF.out.below hb2 HKF.out.lt).cell 0; have m2 : w2.cell? ⟨w.heap.size, 1, none⟩ = some (.slice A2 Bs.length c2) := (HKF.out.below hb2 HKF.out.lt).cell 1; clear hb2))
      | (go_at_call 78; go_loud (refine (HO.out _ (HTA.out.below HB2.out)).mono ?_; rintro e w3 ⟨rfl, hb3⟩; have HB3 := Lib.hid (HB2.out.trans (hb3.mono HB2.out.size)); clear hb3)))
    go_ret2
    rw [HR.out, HC.out]
    exact ⟨rfl, HBW.out.trans (HB3.out.mono HBW.out.size)⟩
end Go.Proofs.YtofabikjjkapmaaGreat

set_option linter.unusedVariables false
set_option linter.unusedSimpArgs false
namespace Go.Proofs.YtofabikjjkapmaaGreat
open Go.RowKit

theorem tabB_sq {A : List (List Int)} {B : List Int} {s : Nat} (h : SqT A B s) (h1 : 1 ≤ s) (h8 : s ≤ 8) : tabB A B = true := by
  have hb := h.lb
  have ha := h.la
  simp only [tabB, Bool.and_eq_true, decide_eq_true_eq, List.all_eq_true, inR_iff]
  refine ⟨⟨⟨⟨by omega, by omega⟩, by omega⟩, nums_iff.2 h.ws⟩, fun r hr => ?_⟩
  unfold rowB
  rw [Bool.and_eq_true, decide_eq_true_eq, hb]
  exact ⟨(h.rows r hr).2, nums_iff.2 (h.rows r hr).1⟩
end Go.Proofs.YtofabikjjkapmaaGreat

set_option linter.unusedVariables false
set_option linter.unusedSimpArgs false
namespace Go.Proofs.YtofabikjjkapmaaGreat
open Go.RowKit

/-- the list with its first i and its last i places turned -/
def revTo (zs : List Int) (i : Nat) : List Int := (List.range zs.length).map fun (p : Nat) => if p < i ∨ zs.length ≤ p + i then zs.getD (zs.length - 1 - p) 0 else zs.getD p 0
theorem revTo_len (zs : List Int) (i : Nat) : (revTo zs i).length = zs.length := by simp [revTo]
theorem revTo_get {zs : List Int} {i p : Nat} (h : p < zs.length) : (revTo zs i)[p]? = some (if p < i ∨ zs.length ≤ p + i then zs.getD (zs.length - 1 - p) 0 else zs.getD p 0) := by
  simp [revTo, h]
theorem revTo_zero (zs : List Int) : revTo zs 0 = zs := by
  refine List.ext_getElem? fun p => ?_
  by_cases h : p < zs.length
  · rw [revTo_get h, if_neg (by omega)]
    simp [List.getD, h]
  · rw [List.getElem?_eq_none (by rw [revTo_len]; omega), List.getElem?_eq_none (by omega)]
theorem revTo_swap {zs : List Int} {i m : Nat} (h : i + m + 1 = zs.length) (hi : i < m) : ((revTo zs i).set i (zs.getD m 0)).set m (zs.getD i 0) = revTo zs (i + 1) := by
  refine List.ext_getElem? fun p => ?_
  by_cases hp : p < zs.length
  · rw [revTo_get hp]
    by_cases h1 : p = m
    · subst h1
      rw [List.getElem?_set_self (by simp [revTo_len]; omega), if_pos (by omega)]
      congr 2
      omega
    · rw [List.getElem?_set_ne (by omega)]
      by_cases h2 : p = i
      · subst h2
        rw [List.getElem?_set_self (by simp [revTo_len]; omega), if_pos (by omega)]
        congr 2
        omega
      · rw [List.getElem?_set_ne (by omega), revTo_get hp]
        congr 1
        by_cases h3 : p < i ∨ zs.length ≤ p + i
        · rw [if_pos h3, if_pos (by omega)]
        · rw [if_neg h3, if_neg (by omega)]
  · rw [List.getElem?_eq_none (by simp [revTo_len]; omega), List.getElem?_eq_none (by rw [revTo_len]; omega)]
theorem revTo_end {zs : List Int} {i m : Nat} (h : i + m + 1 = zs.length) (hi : m ≤ i) : revTo zs i = zs.reverse := by
  refine List.ext_getElem? fun p => ?_
  by_cases hp : p < zs.length
  · rw [revTo_get hp, List.getElem?_reverse hp]
    have hq : zs.length - 1 - p < zs.length := by omega
    rw [List.getElem?_eq_getElem hq]
    congr 1
    by_cases h3 : p < i ∨ zs.length ≤ p + i
    · rw [if_pos h3]; simp [List.getD, hq]
    · rw [if_neg h3]
      have e : zs.length - 1 - p = p := by omega
      simp only [List.getD, e, List.getElem?_eq_getElem hp]
      rfl
  · rw [List.getElem?_eq_none (by rw [revTo_len]; omega), List.getElem?_eq_none (by simp; omega)]

theorem revTo_mid {zs : List Int} {i p : Nat} (h : p < zs.length) (h1 : i ≤ p) (h2 : p + i < zs.length) : (revTo zs i)[p]? = some (zs.getD p 0) := by
  rw [revTo_get h, if_neg (by omega)]

set_option maxRecDepth 100000 in
set_option maxHeartbeats 1000000 in
theorem lib_Reverse (w : World) (B : Nat) (v : Value) (zs : List Int) (ho : OwnInts w B tI v zs) (h1 : 1 ≤ zs.length) (hn : zs.length ≤ 1000) :
    Calls Tryz.prog 144 #[v] w fun e w' => (∃ x, e = .returned x) ∧ OwnInts w' B tI v zs.reverse ∧ w.grownBy w' v.ownBlock := by
  obtain ⟨ho1, ho2⟩ := ho
  have HIN := Lib.hid ho2
  rcases ho1.cases with ⟨rfl, hz⟩ | ⟨g, cap, cur, rfl, hB, hg, _, hcap, hcm, _⟩
  · have := congrArg List.length hz
    simp [ints] at this
    subst this
    simp at h1
  · rw [ints_len] at ho1 hcap
    have hcap2 : cap ≤ 9223372036854775807 := by simpa [maxLen] using hcm
    have HO1 := Lib.hid ho1
    clear ho1 ho2 hcm
    simp only [ints_len]
    go_enter Tryz.func144, Tryz.ntmps144
    go_wp2_with fail
    go_loopw [2, 3] (fun x y wr => ∃ i m : Nat, i + m + 1 = zs.length ∧ x = .int .i64 i ∧ y = .int .i64 m ∧ Own wr B tI (.slice (some ⟨g, 0, none⟩) zs.length cap) (ints (revTo zs i)) ∧ w.grownBy wr (some g)) (fun _ y _ => (intOf y).toNat)
    case atStart => exact ⟨0, zs.length - 1, by omega, rfl, by congr 1; omega, by rw [revTo_zero]; exact HO1.out, World.grownBy.refl _ _⟩
    case round =>
      obtain ⟨i, m, him, rfl, rfl, hown, hgr⟩ := hrel
      by_cases hlt : i < m
      · have e1 := ints_get (revTo_mid (zs := zs) (i := i) (p := m) (by omega) (by omega) (by omega))
        have e2 := ints_get (revTo_mid (zs := zs) (i := i) (p := i) (by omega) (by omega) (by omega))
        obtain ⟨u0, hu0, hcg, hfg, hg2, hg1, hown', hgr'⟩ := hown.storeAt (k := i) (by simp [ints, revTo_len]; omega) (.int .i64 (zs.getD m 0))
        obtain ⟨u1, hu1, hcm, hfm, -, -, -, -⟩ := hown.storeAt (k := m) (by simp [ints, revTo_len]; omega) (.int .i64 (zs.getD m 0))
        obtain rfl : Value.int .i64 (zs.getD i 0) = u0 := by rw [e2] at hu0; simpa using hu0
        obtain rfl : Value.int .i64 (zs.getD m 0) = u1 := by rw [e1] at hu1; simpa using hu1
        obtain ⟨u2, hu2, hc2, hf2, -, -, hown2, hgr2⟩ := hown'.storeAt (k := m) (by simp [ints, revTo_len]; omega) (.int .i64 (zs.getD i 0))
        have hi1 : (i : Int) < (zs.length : Int) := by omega
        have hm1 : (m : Int) < (zs.length : Int) := by omega
        have hi2 : i < zs.length := by omega
        have hm2 : m < zs.length := by omega
        have hne : ¬ i = m := by omega
        have HO := Lib.hid hown2
        have HG := Lib.hid hgr
        have HG1 := Lib.hid hgr'
        have HG2 := Lib.hid hgr2
        have HSW := Lib.hid (revTo_swap him hlt)
        have hc3 : (wr.drew.setCell ⟨g, i, none⟩ (.int .i64 (zs.getD m 0))).cell? ⟨g, m, none⟩ = some u2 := hc2
        have hf3 : (wr.drew.setCell ⟨g, i, none⟩ (.int .i64 (zs.getD m 0))).frozen? ⟨g, m, none⟩ = false := hf2
        clear hc2 hf2
        clear hown hown' hown2 hgr hgr' hgr2 hu0 hu1 hu2 e1 e2
        generalize zs.getD m 0 = x at hcm hc3 hf3 HO HG1 HG2 HSW
        generalize zs.getD i 0 = y at hcg HO HG2 HSW
        go_wp2_with fail
        go_region
        all_goals
          go_wp2_with fail
          go_roundw
          case rel =>
            refine ⟨i + 1, m - 1, by omega, by go_num, by congr 1; omega, ?_, ?_⟩
            · rw [← HSW.out]
              have h := HO.out
              simp only [ints, List.map_set] at h ⊢
              exact h
            · exact ⟨HG2.out.os.trans (HG1.out.os.trans HG.out.os), HG2.out.tape.trans (HG1.out.tape.trans HG.out.tape), HG2.out.output.trans (HG1.out.output.trans HG.out.output), Nat.le_trans HG.out.size (Nat.le_trans HG1.out.size HG2.out.size), fun k hk hne => (HG2.out.block k (Nat.lt_of_lt_of_le hk (Nat.le_trans HG.out.size HG1.out.size)) hne).trans ((HG1.out.block k (Nat.lt_of_lt_of_le hk HG.out.size) hne).trans (HG.out.block k hk hne))⟩
          case measure => simp [intOf]; omega
      · have HO := Lib.hid hown
        have HG := Lib.hid hgr
        have HE := Lib.hid (revTo_end him (by omega))
        clear hown hgr
        go_wp2_with fail
        refine bodyPost_end (v := .tuple #[]) (by simp [results, Tryz.results144, go_sem]) rfl ⟨⟨_, rfl⟩, ⟨?_, fun z hz => HIN.out z (List.mem_reverse.1 hz)⟩, HG.out⟩
        rw [← HE.out]
        exact HO.out

theorem upTo_reverse (n : Nat) : (upTo n).reverse = downTo n n := by
  refine List.ext_getElem? fun p => ?_
  by_cases hp : p < n
  · rw [List.getElem?_reverse (by rw [upTo_len]; exact hp), upTo_len]
    have hq : n - 1 - p < n := by omega
    simp [upTo, downTo, hp, hq]
  · rw [List.getElem?_eq_none (by simp [upTo_len]; omega), List.getElem?_eq_none (by rw [downTo_len]; omega)]
end Go.Proofs.YtofabikjjkapmaaGreat

set_option linter.unusedVariables false
set_option linter.unusedSimpArgs false
namespace Go.Proofs.YtofabikjjkapmaaGreat
open Go.RowKit

end Go.Proofs.YtofabikjjkapmaaGreat

