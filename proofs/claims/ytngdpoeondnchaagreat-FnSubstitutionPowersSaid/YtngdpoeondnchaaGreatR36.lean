/- A region that draws its order: first operations that yield one value each in every world of a class S, in whatever order; then a tail in one order, which may write. No program in sight. | Walk: substitutionInverse of the program. (printed by ivgen.py) | Walk: intoMap of the program. (printed by ivgen.py) -/
import Derived.Test.YtngdpoeondnchaaGreatR15
import Derived.StillTail
import Derived.Test.YtngdpoeondnchaaGreatR30
import Derived.Test.YtngdpoeondnchaaGreatR29
import Derived.Deep.CutRange
import Derived.Deep.CutBlock
import Derived.Deep.DeepCutAuto
import Derived.Test.YtngdpoeondnchaaGreatR33
set_option linter.unusedVariables false
set_option linter.unusedSimpArgs false
namespace Go.Proofs.YtngdpoeondnchaaGreat
open Go Go.RowKit

section
variable {P : Program} {ops : Array Oper} {md : Region.Mode} {C : World → Prop} {n : Nat} {D : Array Bool → Act → Prop}

/-- so many steps, each by an operation of the head, whatever is picked; then D -/
def HeadQ (P : Program) (md : Region.Mode) (ops : Array Oper) (C : World → Prop) (n : Nat) (D : Array Bool → Act → Prop) : Nat → Array Bool → Act → Prop
  | 0, L, a => D L a
  | f + 1, L, a => Region.ready md ops L ≠ [] ∧ ∀ i ∈ Region.ready md ops L, i < n ∧ qOp P ops C i (HeadQ P md ops C n D f (L.setIfInBounds i true)) a

theorem HeadQ.any {g : Nat} {Q : Exit → Act → World → Prop} (hD : ∀ L a, D L a → ∀ w, C w → wpAny P md ops Q g L a w) : ∀ (f : Nat) (L : Array Bool) (a : Act) (w : World), C w → HeadQ P md ops C n D f L a → wpAny P md ops Q (f + g) L a w := by
  intro f
  induction f with
  | zero => intro L a w hw h; rw [Nat.zero_add]; exact hD L a h w hw
  | succ f ih =>
    intro L a w hw h
    have e : f + 1 + g = (f + g) + 1 := by omega
    rw [e]
    refine ⟨fun h0 => absurd h0 h.1, fun i hi => ?_⟩
    exact wpOp_of_qOp hw (fun a' w' hw' h' => ih _ a' w' hw' h') (h.2 i hi).2

theorem HeadQ.take {i : Nat} {oi : Oper} {v : Value} (hi : ops[i]? = some oi) (hsel : ∀ (j : Nat) (o : Oper) cs b, ops[j]? = some o → o.op ≠ .select cs b)
    (hs : Region.sinkB md ops n = true) (hc : Region.chainB md ops n = true) (hn : n < ops.size) (hin : i < n) (hD : ∀ L a, D L a → ∀ j ∈ Region.ready md ops L, n ≤ j) :
    ∀ (f : Nat) (L : Array Bool) (a : Act), HeadInv md ops n L →
      (∀ j oj, ops[j]? = some oj → j ≠ i → L.getD j true = false → (∀ e ∈ oj.after, Region.binds md e = true → e.on ≠ i) → oi.apart ops oj = true) →
      i ∈ Region.ready md ops L → YieldsIn P ops C oi v a →
      HeadQ P md ops C n D f (L.setIfInBounds i true) (a.put oi.dst v) → HeadQ P md ops C n D (f + 1) L a := by
  intro f
  induction f with
  | zero =>
    intro L a inv _ hr hy H
    have hun := (mem_ready.1 hr).1
    refine ⟨List.ne_nil_of_mem hr, fun j hj => ?_⟩
    have hjn : j < n := Nat.lt_of_not_le fun h => tail_waits hs hc hn inv _ i rfl hin hun j h hj
    by_cases hji : j = i
    · subst hji; exact ⟨hjn, hy.qOp hi H⟩
    · have := hD _ _ H j (ready_mono hj hji)
      omega
  | succ f ih =>
    intro L a inv hfree hr hy H
    have hun := (mem_ready.1 hr).1
    refine ⟨List.ne_nil_of_mem hr, fun j hj => ?_⟩
    have hjn : j < n := Nat.lt_of_not_le fun h => tail_waits hs hc hn inv _ i rfl hin hun j h hj
    by_cases hji : j = i
    · subst hji; exact ⟨hjn, hy.qOp hi H⟩
    · refine ⟨hjn, ?_⟩
      obtain ⟨hjun, oj, hoj, hall⟩ := mem_ready.1 hj
      have hnot : ∀ e ∈ oj.after, Region.binds md e = true → e.on ≠ i := by
        intro e he hb heq
        have h1 := hall e he hb
        rw [heq, getD_both hun] at h1
        cases h1
      have h2 := qOp_put hoj (hfree j oj hoj hji hjun hnot) (fun cs b => hsel i oi cs b hi) (fun cs b => hsel j oj cs b hoj) hy (H.2 j (ready_mono hj hji)).2
      refine qOp_mono (fun a' h3 => ?_) h2
      refine ih (L.setIfInBounds j true) a' (inv.set hj hjn) (fun k ok hk hki hun' hno => hfree k ok hk hki ?_ hno) (ready_mono hr (Ne.symm hji)) h3.1 ?_
      · by_cases hjk : j = k
        · subst hjk; exact hjun
        · rwa [getD_set_ne true hjk] at hun'
      · rw [Array.setIfInBounds_comm _ _ hji]
        exact h3.2

theorem HeadQ.lex {g : Nat} (hs : Region.noSelect ops = true) (hsk : Region.sinkB md ops n = true) (hc : Region.chainB md ops n = true) (hn : n < ops.size) {l' : List Oper} {Q : Exit → Act → World → Prop}
    (hl' : ∀ j, l'[j]? = ops[n + j]?) (hg : l'.length = g) :
    ∀ (l : List Oper) (k : Nat) (L : Array Bool) (a : Act), (∀ j, j < l.length → l[j]? = ops[k + j]?) → k + l.length = n → HeadInv md ops n L → Region.lexHead md ops g l.length k L = true →
      wpQuiet P ops C (fun a' => ∀ w', C w' → wpList P ops Q l' a' w') l a →
      HeadQ P md ops C n (fun L a => (∀ w', C w' → wpAny P md ops Q g L a w') ∧ ∀ j ∈ Region.ready md ops L, n ≤ j) l.length L a := by
  intro l
  induction l with
  | nil =>
    intro k L a _ hkn inv hB h
    simp only [List.length_nil, Nat.add_zero] at hkn
    subst hkn
    refine ⟨fun w' hw' => ?_, fun j hj => seqB_ready hB j hj⟩
    have := wpAny_of_seq (P := P) (Q' := Q) l' k L a w' hl' (by rw [hg]; exact hB) (h w' hw')
    rwa [hg] at this
  | cons o l ih =>
    intro k L a hl hkn inv hB h
    simp only [List.length_cons] at hkn hB ⊢
    have h0 : ops[k]? = some o := by simpa using (hl 0 (by simp)).symm
    simp only [Region.lexHead, Bool.and_eq_true] at hB
    obtain ⟨⟨hr, hf⟩, hB'⟩ := hB
    have hr' : k ∈ Region.ready md ops L := by simpa using hr
    have hst : qOp P ops C k (wpQuiet P ops C (fun a' => ∀ w', C w' → wpList P ops Q l' a' w') l) a := by unfold qOp; simp only [h0]; exact h
    obtain ⟨v, hy, hK⟩ := yieldsIn_of_qOp h0 hst
    refine HeadQ.take h0 (Region.noSelect_spec hs) hsk hc hn (by omega) (fun L a h => h.2) l.length L a inv (Region.free_spec h0 hf) hr' hy ?_
    refine ih (k + 1) _ _ (fun j hj => ?_) (by omega) (inv.set hr' (by omega)) hB' hK
    have := hl (j + 1) (by simp; omega)
    simpa [Nat.add_assoc, Nat.add_comm 1 j] using this

theorem wp_region_tail {id : Nat} {Q : Exit → Act → World → Prop} {a : Act} {w : World} {l : List Oper} (n : Nat) (S : World → Prop) (hm : P.follows .mixedOrders = true) (hB : Region.lexTailB .any l.toArray n = true) (hC : S w.drew)
    (h : Nonempty (GW S) → wpQuiet P l.toArray (fun w' => ∃ x : GW S, w' = x.w) (fun a' => ∀ w', (∃ x : GW S, w' = x.w) → wpList P l.toArray Q (l.drop n) a' w') (l.take n) a) : (Code.region id l.toArray true).wp P Q a w := by
  have hC' : (fun w' => ∃ x : GW S, w' = x.w) w.drew := ⟨⟨_, hC⟩, rfl⟩
  have h := h ⟨⟨_, hC⟩⟩
  simp only [Region.lexTailB, Bool.and_eq_true, decide_eq_true_eq] at hB
  obtain ⟨⟨⟨⟨h1, h2⟩, h3⟩, h4⟩, h5⟩ := hB
  have hsz : l.toArray.size = l.length := by simp
  have hnl : n < l.length := by rw [hsz] at h2; exact h2
  have htl : (l.take n).length = n := by rw [List.length_take]; omega
  refine wp_region_any hm ?_
  have inv : HeadInv .any l.toArray n (Array.replicate l.toArray.size false) := by
    refine ⟨by simp, fun j oj _ hl => ?_, fun t _ ht => getD_in (by simpa using ht) (getD_replicate_false _ _)⟩
    rw [getD_replicate_false] at hl
    cases hl
  have hq := HeadQ.lex (P := P) (md := .any) (ops := l.toArray) (C := fun w' => ∃ x : GW S, w' = x.w) (n := n) (g := l.toArray.size - n) (l' := l.drop n) (Q := Q) h1 h3 h4 h2 (fun j => by simp) (by simp)
    (l.take n) 0 (Array.replicate l.toArray.size false) a (fun j hj => by rw [htl] at hj; simp [hj]) (by omega) inv (by rw [htl]; exact h5) h
  have := HeadQ.any (g := l.toArray.size - n) (Q := Q) (fun L a h w hw => h.1 w hw) _ _ _ _ hC' hq
  rw [htl, show n + (l.toArray.size - n) = l.toArray.size by omega] at this
  exact this
end
end Go.Proofs.YtngdpoeondnchaaGreat

set_option maxRecDepth 100000
set_option linter.unusedVariables false
set_option linter.unusedSimpArgs false
namespace Go.Proofs.YtngdpoeondnchaaGreat
open Go.RowKit

set_option maxHeartbeats 32000000 in
theorem i_substitutionInverse (w : World) (v vp vb : Value) (Bf : Option Addr) (m0 d Bp : Nat) (b : List Int) (ha : Rows w v (T6n.map up)) (hP : Prs w Bp vp) (h1 : Ints w vb b) (l1 : b.length = 38) (hN1 : Nums b) :
    Calls Tryz.prog 93 #[.agg #[v, .slice Bf m0 d], vp, vb] w fun e w' => ∃ x, e = .returned x ∧ OwnInts w' w.heap.size tI x (invZ b) ∧ Below w.heap.size w w' := by
  obtain ⟨AP, cP, rfl, -⟩ := hP.at_
  obtain ⟨Ab, cb, rfl, -, -, -⟩ := h1.open_
  rw [l1] at h1 ⊢
  obtain ⟨wb, hwb⟩ : ∃ wb, wb = w.alloc (.cells #[v, .slice Bf m0 d] tFo) := ⟨_, rfl⟩
  have hbb : Below w.heap.size w wb := by rw [hwb]; exact below1 w _
  have HBB := Lib.hid hbb
  have HF := Lib.hid (show Blk wb w.heap.size tFo #[v, .slice Bf m0 d] from by rw [hwb]; exact Blk.new _ _ _)
  have HR := Lib.hid (ha.below hbb)
  have HP := Lib.hid (hP.below hbb)
  have HI1 := Lib.hid (h1.below hbb)
  have HNB := Lib.hid hN1
  have HLB := Lib.hid l1
  have HSZ := Lib.hid (show wb.heap.size = w.heap.size + 1 from by rw [hwb]; simp)
  have hmk : ∀ W : World, (Instr.makeSlice 27 (.int .i64 38) (.int .i64 38)).run Tryz.prog W = .ok (.slice (some ⟨W.heap.size, 0, none⟩) 38 38) (W.alloc (.cells (madeCells #[.int .i64 0] 38) tI)) := fun W => run_make T_int 38 (by omega) W
  clear ha hP h1 hN1 l1 hbb
  go_enter Tryz.func93, Tryz.ntmps93
  go_upto_region 1 with fail
  rw [← hwb]
  clear hwb
  go_cut [7, 8] (fun o wv wx => ∃ g g2 c2, o = .slice (some ⟨g, 0, none⟩) 38 38 ∧ wv = .slice (some ⟨g2, 0, none⟩) 38 c2 ∧ g ≠ g2 ∧ OwnInts wx wb.heap.size tI (.slice (some ⟨g, 0, none⟩) 38 38) (List.replicate 38 0) ∧ OwnInts wx w.heap.size tI (.slice (some ⟨g2, 0, none⟩) 38 c2) unitL ∧ Below wb.heap.size wb wx)
  case first =>
    have hsz := HSZ.out
    have HM1 := Lib.hid (fun (W : World) => show OwnInts (W.alloc (.cells (madeCells #[.int .i64 0] 38) tI)) W.heap.size tI (.slice (some ⟨W.heap.size, 0, none⟩) 38 38) (List.replicate 38 0) from ⟨by have h := own_made W tI (.int .i64 0) 38 (by simp [maxLen]); rwa [show List.replicate 38 (Value.int .i64 0) = ints (List.replicate 38 0) from by simp [ints]] at h, fun z hz => by simp at hz; subst hz; unfold In64; omega⟩)
    go_region_law ((go_simp; go_at_call 42; refine (i_SubstitutionUnit _).mono ?_; rintro e w3 ⟨x3, rfl, ho3, hb3⟩; rcases ho3.1.cases with ⟨-, he⟩ | ⟨g2, cap2, cur2, he, hg21, hg22, -⟩; (· exact absurd (congrArg List.length he) (by decide)); have he : x3 = .slice (some ⟨g2, 0, none⟩) 38 cap2 := he; subst he; have HO3 := Lib.hid ho3; have HB3 := Lib.hid hb3; have hge := ho3.1.ge g2 rfl; have hlt3 := ho3.1.lt g2 rfl; clear ho3 hb3 hg21 hg22))
    all_goals
      clear hmk
      go_wp2_with fail
      go_meet
      first
        | (have h1 : OwnInts w3 wb.heap.size tI (.slice (some ⟨w.heap.size + 1, 0, none⟩) 38 38) (List.replicate 38 0) := (by rw [← hsz]; exact (HM1.out wb).below (below_of_drew HB3.out)); exact ⟨_, _, _, rfl, rfl, by simp at hge; omega, h1, HO3.out.mono (by simp; omega), ((below1 wb _).trans ((below_of_drew HB3.out).mono (by simp)))⟩)
        | (exact ⟨_, _, _, rfl, rfl, by omega, (HM1.out w3).mono (below_of_drew HB3.out).size, (HO3.out.below (below1 w3 _)).mono (by simp; omega), (below_of_drew HB3.out).trans ((below1 w3 _).mono (below_of_drew HB3.out).size)⟩)
  case rest =>
    obtain ⟨g, g2, c2, rfl, rfl, hne, ho, hw, hb⟩ := hcut
    have HNE := Lib.hid hne
    have HO0 := Lib.hid ho
    have HW0 := Lib.hid hw
    have HB0 := Lib.hid hb
    clear hne ho hw hb hmk
    go_wp2_with fail
    go_loopw [18] (fun x wr => ∃ i : Nat, i ≤ 37 ∧ x = .int .i64 i ∧ OwnInts wr wb.heap.size tI (.slice (some ⟨g, 0, none⟩) 38 38) (filS (invF b) i) ∧ OwnInts wr w.heap.size tI (.slice (some ⟨g2, 0, none⟩) 38 c2) unitL ∧ Below wb.heap.size wb wr) (fun x _ => 37 - (intOf x).toNat)
    case atStart => exact ⟨0, Nat.zero_le _, rfl, HO0.out, HW0.out, HB0.out⟩
    case round =>
      obtain ⟨i, hi, rfl, ho, hw, hb⟩ := hrel
      rename World => wq
      have HO := Lib.hid ho
      have HW := Lib.hid hw
      have HB := Lib.hid hb
      have hsq := hb.size
      have hon := filS_nums (fun o n => invF_bd b o n) i
      obtain ⟨AP', cP', he, hat⟩ := (HP.out.below hb).at_
      simp only [Value.slice.injEq, true_and] at he
      obtain ⟨rfl, rfl⟩ := he
      clear ho hw hb
      by_cases hlt : i < 37
      · obtain ⟨adp, css, A2, c2', rfl, ho2, hm2, hcp⟩ := hat i hlt
        have htm := tr_mem hlt
        have hpl := prtI_len htm
        obtain ⟨L, hL⟩ : ∃ L, L = prtI (tr i) := ⟨_, rfl⟩
        rw [← hL] at hm2 hpl
        have HLE := Lib.hid hL
        have HPL := Lib.hid hpl
        have hcl := hm2.1
        have HCL := Lib.hid hcl
        have hc5 : css.length ≤ 500 := by rw [hcl]; exact hpl.1
        have HO2 := Lib.hid ho2
        have HM2 := Lib.hid hm2
        obtain ⟨awp, haw, hcw, hw0, hw1⟩ := map_cell HW.out.ints (fun z hz => unitL_nums z hz) (k := i + 1) (by omega)
        simp only [Option.some.injEq] at haw
        subst haw
        obtain ⟨wt, hwt⟩ : ∃ wt, wt = (unitL : List Int).getD (i + 1) 0 := ⟨_, rfl⟩
        rw [← hwt, addr_add] at hcw
        rw [← hwt] at hw0 hw1
        have HSE2 := Lib.hid (show filS (invF b) (i + 1) = (filS (invF b) i).set (i + 1) ((wt - sumF (tmC (fun k => k != i + 1) (filS (invF b) i) b) L) % 10007 * pw (pw (b.getD 1 0) (tr i).length) 10005 % 10007) from by
          rw [filS, hwt, hL]
          unfold invF
          rw [show ∀ x y : Int, (x - y) % 10007 = (x - y % 10007) % 10007 from fun x y => by omega, ← allm_prt, show ∀ x y : Int, (x - y % 10007) % 10007 = (x - y) % 10007 from fun x y => by omega])
        have hii : (i : Int) < 37 := by omega
        have hi1 : (i : Int) + 1 < 38 := by omega
        clear hat htm hpl hL hcl ho2 hm2 hwt
        go_wp2_with fail
        go_loopw [11, 30] (fun s x wr => ∃ j : Nat, j ≤ css.length ∧ x = .int .i64 j ∧ s = .int .i64 (wt - sumF (tmC (fun k => k != i + 1) (filS (invF b) i) b) (L.take j)) ∧ Below wq.heap.size wq wr) (fun _ x _ => css.length - (intOf x).toNat)
        case atStart => exact ⟨0, Nat.zero_le _, rfl, by simp [sumF], Below.refl _ _⟩
        case round =>
          obtain ⟨j, hj, rfl, rfl, hb⟩ := hrel
          rename World => wc
          have HBC := Lib.hid hb
          have hsb : 0 ≤ sumF (tmC (fun k => k != i + 1) (filS (invF b) i) b) (L.take j) ∧ sumF (tmC (fun k => k != i + 1) (filS (invF b) i) b) (L.take j) ≤ 500 * 10006 := by
            have h := sumF_bd (tmC (fun k => k != i + 1) (filS (invF b) i) b) 10006 (L.take j) fun x _ => tmC_bd _ _ _ x
            have h2 : (L.take j).length ≤ 500 := Nat.le_trans (List.length_take_le _ _) (by omega)
            have h3 := HPL.out.1
            rw [List.length_take] at h
            omega
          by_cases hlj : j < css.length
          · obtain ⟨⟨⟨cr, sk⟩, n⟩, hx⟩ : ∃ x, L[j]? = some x := ⟨_, List.getElem?_eq_getElem (by rw [← HCL.out]; exact hlj)⟩
            have hxm := List.mem_of_getElem? hx
            have hn : n ≤ 500 := HPL.out.2 _ hxm
            obtain ⟨hcr, hsk⟩ := prtI_at (t := tr i) (x := ((cr, sk), n)) (by rw [← HLE.out]; exact hxm)
            have hcr : ∀ p ∈ cr, p < 38 := hcr
            have hsk : sk < 38 := hsk
            obtain ⟨go, As, cs, rfl, hs1, hq0, hq1, hq2⟩ := part_at (HO2.out.below hb) (HM2.out.below hb) hx
            have hs1 : OwnInts wc Bp tN (.slice As cr.length cs) (up cr) := hs1
            have hq0 : wc.cell? ⟨go, j * 3, none⟩ = some (.int .i64 n) := hq0
            have hq1 : wc.cell? ⟨go, j * 3 + 1, none⟩ = some (.slice As cr.length cs) := hq1
            have hq2 : wc.cell? ⟨go, j * 3 + 2, none⟩ = some (.int .i64 sk) := hq2
            have hsum : sumF (tmC (fun k => k != i + 1) (filS (invF b) i) b) (L.take (j + 1)) = sumF (tmC (fun k => k != i + 1) (filS (invF b) i) b) (L.take j) + (tmC (fun k => k != i + 1) (filS (invF b) i) b) ((cr, sk), n) := sumF_take _ hx
            have HCR := Lib.hid hcr
            have hjj : (j : Int) < (css.length : Int) := by omega
            have hskk : (sk : Int) < 38 := by omega
            obtain ⟨W, hW⟩ : ∃ W, W = wc.alloc (.cells #[.int .i64 n, .slice As cr.length cs, .int .i64 sk] tMp) := ⟨_, rfl⟩
            have hbw : Below wc.heap.size wc W := by rw [hW]; exact below1 wc _
            have HBW := Lib.hid hbw
            have HKP := Lib.hid (show Blk W wc.heap.size tMp #[.int .i64 n, .slice As cr.length cs, .int .i64 sk] from by rw [hW]; exact Blk.new _ _ _)
            by_cases hcs : sk = i + 1
            · have HTJ := Lib.hid (show sumF (tmC (fun k => k != i + 1) (filS (invF b) i) b) (L.take (j + 1)) = sumF (tmC (fun k => k != i + 1) (filS (invF b) i) b) (L.take j) from by rw [hsum]; unfold tmC; simp [hcs])
              have hd : ((sk : Int) != (i : Int) + 1) = false := by simp; omega
              clear hxm hcr hx hb hsum hs1 hcs
              generalize sumF (tmC (fun k => k != i + 1) (filS (invF b) i) b) (L.take j) = sm at *
              go_upto_region 9 with fail
              rw [← hW]
              clear hW
              have hw2 : W.cell? ⟨wc.heap.size, 2, none⟩ = some (.int .i64 sk) := HKP.out.cell 2
              go_wp2_with fail
              go_roundw
              case rel => exact ⟨j + 1, by omega, by go_num, by rw [HTJ.out], HBC.out.trans (HBW.out.mono HBC.out.size)⟩
              case measure => simp [intOf]; omega
            · have hd : ((sk : Int) != (i : Int) + 1) = true := by simp; omega
              have HTJ := Lib.hid (show sumF (tmC (fun k => k != i + 1) (filS (invF b) i) b) (L.take (j + 1)) = sumF (tmC (fun k => k != i + 1) (filS (invF b) i) b) (L.take j) + (n : Int) * ((filS (invF b) i).getD sk 0 * valZ b cr % 10007) % 10007 from by rw [hsum, tmC_pos _ _ _ _ (by simp [hcs])])
              have HSW := Lib.hid (hs1.below hbw).ints
              have HBP := Lib.hid ((HI1.out.below HB.out).below (HBC.out.trans (hbw.mono HBC.out.size)))
              obtain ⟨asp, he, hcx, hx0, hx1⟩ := map_cell ((HO.out.below hb).ints) hon (k := sk) hsk
              simp only [Option.some.injEq] at he
              subst he
              rw [addr_add] at hcx
              have hvb := valZ_bd b cr
              obtain ⟨V, hV⟩ : ∃ V, V = valZ b cr := ⟨_, rfl⟩
              rw [← hV] at hvb HTJ
              have HVE := Lib.hid hV
              generalize hyg : (filS (invF b) i).getD sk 0 = y at hcx hx0 hx1 HTJ
              obtain ⟨p1, p2⟩ := mul_bd 10006 10006 hx0 hx1 hvb.1 hvb.2
              have hmd : 0 ≤ y * V % 10007 ∧ y * V % 10007 ≤ 10006 := by omega
              obtain ⟨q1, q2⟩ := mul_bd 500 10006 (show (0 : Int) ≤ (n : Int) by omega) (show (n : Int) ≤ 500 by omega) hmd.1 hmd.2
              have HSM := Lib.hid hsum
              clear hxm hcr hx hV hb hsum hs1 hyg hcs HSM
              generalize sumF (tmC (fun k => k != i + 1) (filS (invF b) i) b) (L.take j) = sm at *
              go_upto_region 9 with fail
              rw [← hW]
              clear hW hbw
              have hw2 : W.cell? ⟨wc.heap.size, 2, none⟩ = some (.int .i64 sk) := HKP.out.cell 2
              obtain ⟨S, hS1, hS2⟩ : ∃ S : World → Prop, (∀ Wx, S Wx → Below W.heap.size W Wx) ∧ (∀ Wx, Below W.heap.size W Wx → S Wx) := ⟨fun Wx => Below W.heap.size W Wx, fun _ h => h, fun _ h => h⟩
              have HSE := Lib.hid (show ∀ x : GW S, Below W.heap.size W x.w from fun x => hS1 _ x.h)
              have HSI := Lib.hid (show S W.drew from hS2 _ (Below.refl W.heap.size W).drew)
              have hx0' : ∀ x : GW S, x.w.cell? ⟨wc.heap.size, 0, none⟩ = some (.int .i64 n) := fun x => keepCell (HSE.out x) (HKP.out.cell 0)
              have hx1' : ∀ x : GW S, x.w.cell? ⟨wc.heap.size, 1, none⟩ = some (.slice As cr.length cs) := fun x => keepCell (HSE.out x) (HKP.out.cell 1)
              have hx2' : ∀ x : GW S, x.w.cell? ⟨wc.heap.size, 2, none⟩ = some (.int .i64 sk) := fun x => keepCell (HSE.out x) (HKP.out.cell 2)
              have hx3' : ∀ x : GW S, x.w.cell? ⟨g, sk, none⟩ = some (.int .i64 y) := fun x => keepCell ((HBW.out.trans ((HSE.out x).mono HBW.out.size))) hcx
              skip
              have HVL := Lib.hid (show ∀ x : GW S, Calls Tryz.prog 110 #[.slice Ab 38 cb, .slice As cr.length cs] x.w (fun e w' => e = .returned (.int .i64 V) ∧ S w') from fun x => (i_valueOf x.w _ _ b cr (HBP.out.below (HSE.out x)) HLB.out HNB.out (HSW.out.below (HSE.out x)) HCR.out).mono (by rintro e w7 ⟨rfl, rfl⟩; exact ⟨by rw [HVE.out], hS2 _ (HSE.out x)⟩))
              have HN1 := Lib.hid (show ∀ x : GW S, Calls Tryz.prog 103 #[.int .i64 (y * V)] x.w (fun e w' => e = .returned (.int .i64 (y * V % 10007)) ∧ S w') from fun x => (i_num (y * V) x.w (by omega) (by omega)).mono (by rintro e w7 ⟨rfl, rfl⟩; exact ⟨rfl, hS2 _ (HSE.out x)⟩))
              have hws1 : IntKind.i64.wrap (y * V) = y * V := IntWalk.i64_in _ (by omega)
              generalize y * V % 10007 = q at *
              have HN2 := Lib.hid (show ∀ x : GW S, Calls Tryz.prog 103 #[.int .i64 ((n : Int) * q)] x.w (fun e w' => e = .returned (.int .i64 ((n : Int) * q % 10007)) ∧ S w') from fun x => (i_num ((n : Int) * q) x.w (by omega) (by omega)).mono (by rintro e w7 ⟨rfl, rfl⟩; exact ⟨rfl, hS2 _ (HSE.out x)⟩))
              have hws2 : IntKind.i64.wrap ((n : Int) * q) = (n : Int) * q := IntWalk.i64_in _ (by omega)
              have hq3 : 0 ≤ (n : Int) * q % 10007 ∧ (n : Int) * q % 10007 ≤ 10006 := by omega
              have HON := Lib.hid hon
              clear hS1 hS2 hq0 hq1 hq2 hcx hon
              go_upto_region 10 with fail
              refine wp_region_grow S (by kernel_rfl) (by kernel_rfl) HSI.out (fun hne => ?_)
              repeat (go_big_quiet_step ((first
                | (go_at_call 110; exact grow_call (HVL.out _))
                | (go_at_call_of 103 y; exact grow_call (HN1.out _))
                | (go_at_call 103; exact grow_call (HN2.out _)))))
              refine wpQuiet_nil ?_
              rintro _ ⟨xq, rfl⟩
              clear hx0' hx1' hx2' hx3'
              go_wp2_with fail
              go_roundw
              case rel => exact ⟨j + 1, by omega, by go_num, by rw [HTJ.out]; congr 1; omega, HBC.out.trans ((HBW.out.trans ((HSE.out xq).mono HBW.out.size)).mono HBC.out.size)⟩
              case measure => simp [intOf]; omega
          · have hjl : L.take j = L := List.take_of_length_le (by rw [← HCL.out]; omega)
            rw [hjl] at hsb ⊢
            clear hjl
            have HOC := Lib.hid (HO.out.below hb)
            have HBF := Lib.hid (HB.out.trans (hb.mono HB.out.size))
            obtain ⟨ab1, hab, hcb, hb10, hb11⟩ := map_cell ((HI1.out.below HB.out).below hb) HNB.out (k := 1) (by omega)
            subst hab
            obtain ⟨y1, hy1⟩ : ∃ y1, y1 = b.getD 1 0 := ⟨_, rfl⟩
            rw [← hy1] at hcb hb10 hb11
            have hse := HSE2.out
            rw [← hy1] at hse
            obtain ⟨tn, htn⟩ : ∃ tn, tn = (tr i).length := ⟨_, rfl⟩
            have htn6 : tn ≤ 6 := by rw [htn]; exact (T6n_at (tr_mem hlt)).2.2.1
            rw [← htn] at hse
            have hsz1 : szN (i + 1) = tn := by rw [htn]; exact sz_tr hlt
            have hpb := pw_bd y1 tn
            have hpc := pw_bd (pw y1 tn) 10005
            have HPE := Lib.hid (show ∀ W, Calls Tryz.prog 81 #[.int .i64 (pw y1 tn)] W fun e w' => e = .returned (.int .i64 (pw (pw y1 tn) 10005)) ∧ W = w' from fun W => i_inv (pw y1 tn) W (by omega) (by omega))
            generalize pw (pw y1 tn) 10005 = yy at hse hpc HPE
            generalize hpy : pw y1 tn = yt at HPE
            generalize sumF (tmC (fun k => k != i + 1) (filS (invF b) i) b) L = sm at *
            have hr1 : 0 ≤ (wt - sm) % 10007 ∧ (wt - sm) % 10007 ≤ 10006 := by omega
            generalize hrr : (wt - sm) % 10007 = rr at *
            obtain ⟨p1, p2⟩ := mul_bd 10006 10006 hr1.1 hr1.2 hpc.1 hpc.2
            have hwr : IntKind.i64.wrap (rr * yy) = rr * yy := IntWalk.i64_in _ (by omega)
            have HSQ := Lib.hid hse
            have HRR := Lib.hid hrr
            have HPY := Lib.hid hpy
            have HS1 := Lib.hid hsz1
            obtain ⟨S, hS1, hS2⟩ : ∃ S : World → Prop, (∀ Wx, S Wx → Below wc.heap.size wc Wx) ∧ (∀ Wx, Below wc.heap.size wc Wx → S Wx) := ⟨fun Wx => Below wc.heap.size wc Wx, fun _ h => h, fun _ h => h⟩
            have HSE := Lib.hid (show ∀ x : GW S, Below wc.heap.size wc x.w from fun x => hS1 _ x.h)
            have HSI := Lib.hid (show S wc.drew from hS2 _ (Below.refl wc.heap.size wc).drew)
            have HFW := Lib.hid (HF.out.below HBF.out HF.out.lt)
            have hy0 : ∀ x : GW S, x.w.cell? ⟨w.heap.size, 0, none⟩ = some v := fun x => keepCell (HSE.out x) (HFW.out.cell 0)
            have hy1' : ∀ x : GW S, x.w.cell? ⟨w.heap.size, 1, none⟩ = some (.slice Bf m0 d) := fun x => keepCell (HSE.out x) (HFW.out.cell 1)
            have hcb' : wc.cell? ⟨ab1.block, ab1.off + 1, none⟩ = some (.int .i64 y1) := by simpa [Addr.add] using hcb
            have hy2 : ∀ x : GW S, x.w.cell? ⟨ab1.block, ab1.off + 1, none⟩ = some (.int .i64 y1) := fun x => keepCell (HSE.out x) hcb'
            have HN1 := Lib.hid (show ∀ x : GW S, Calls Tryz.prog 103 #[.int .i64 (wt - sm)] x.w (fun e w' => e = .returned (.int .i64 rr) ∧ S w') from fun x => (i_num (wt - sm) x.w (by omega) (by omega)).mono (by rintro e w7 ⟨rfl, rfl⟩; exact ⟨by rw [HRR.out], hS2 _ (HSE.out x)⟩))
            have HN2 := Lib.hid (show ∀ x : GW S, Calls Tryz.prog 103 #[.int .i64 (rr * yy)] x.w (fun e w' => e = .returned (.int .i64 (rr * yy % 10007)) ∧ S w') from fun x => (i_num (rr * yy) x.w (by omega) (by omega)).mono (by rintro e w7 ⟨rfl, rfl⟩; exact ⟨rfl, hS2 _ (HSE.out x)⟩))
            have HND := Lib.hid (show ∀ x : GW S, Calls Tryz.prog 120 #[.agg #[v, .slice Bf m0 d], .int .i64 ((i : Int) + 1)] x.w (fun e w' => e = .returned (.int .i64 (tn : Nat)) ∧ S w') from fun x => by
              have h := im_nodes x.w v Bf m0 d (i + 1) (HR.out.below (HBF.out.trans ((HSE.out x).mono HBF.out.size))) (by omega)
              rw [show ((i + 1 : Nat) : Int) = (i : Int) + 1 from by omega, HS1.out] at h
              exact h.mono (by rintro e w7 ⟨rfl, hw7⟩; refine ⟨rfl, hS2 _ ?_⟩; rw [hw7]; exact (HSE.out x).trans ((below1 _ _).mono (HSE.out x).size)))
            have HPW := Lib.hid (show ∀ x : GW S, Calls Tryz.prog 100 #[.int .i64 y1, .int .i64 (tn : Nat)] x.w (fun e w' => e = .returned (.int .i64 yt) ∧ S w') from fun x => (i_pow y1 (tn : Int) x.w (by omega) (by omega) (by omega) (by omega)).mono (by rintro e w7 ⟨rfl, rfl⟩; exact ⟨by rw [← HPY.out]; simp, hS2 _ (HSE.out x)⟩))
            have HIV := Lib.hid (show ∀ x : GW S, Calls Tryz.prog 81 #[.int .i64 yt] x.w (fun e w' => e = .returned (.int .i64 yy) ∧ S w') from fun x => (HPE.out x.w).mono (by rintro e w7 ⟨rfl, rfl⟩; exact ⟨rfl, hS2 _ (HSE.out x)⟩))
            clear hS1 hS2 hse htn hpb hrr hpy hsz1 hcb hcb' hb hy1
            go_upto_region 12 with fail
            refine wp_region_tail 16 S (by kernel_rfl) (by kernel_rfl) HSI.out (fun hne => ?_)
            simp only [List.take_succ_cons, List.take_zero, List.drop_succ_cons, List.drop_zero]
            repeat (go_big_quiet_step ((first
              | (go_at_call_of 103 yy; exact grow_call (HN2.out _))
              | (go_at_call 103; exact grow_call (HN1.out _))
              | (go_at_call 120; exact grow_call (HND.out _))
              | (go_at_call 100; exact grow_call (HPW.out _))
              | (go_at_call 81; exact grow_call (HIV.out _)))))
            refine wpQuiet_nil ?_
            rintro _ ⟨xq, rfl⟩
            obtain ⟨wz, hwz⟩ : ∃ wz, wz = xq.w := ⟨_, rfl⟩
            have hbz : Below wc.heap.size wc wz := by rw [hwz]; exact HSE.out xq
            rw [← hwz]
            clear hwz hy0 hy1' hy2 HN1 HN2 HND HPW HIV HPE HSE HSI xq hne
            obtain ⟨u0, -, hcg, hfg, -, -, hown', hgr⟩ := (HOC.out.1.below hbz).storeAt (k := i + 1) (by rw [ints_len, filS_len]; omega) (.int .i64 (rr * yy % 10007))
            rw [ints_set, ← HSQ.out] at hown'
            have HO4 := Lib.hid hown'
            have HW4 := Lib.hid (((HW.out.below HBC.out).below hbz).kept (v' := .slice (some ⟨g, 0, none⟩) 38 38) hgr (.inr (by simp [Value.ownBlock]; exact fun e => HNE.out e.symm)))
            have hge := HO.out.1.ge g rfl
            have HBZ := Lib.hid (HBF.out.trans (hbz.mono HBF.out.size))
            clear hgr hown' hbz
            go_wp2_with fail
            go_roundw
            case rel =>
              exact ⟨i + 1, by omega, by go_num, ⟨HO4.out, fun z hz => in64_num (filS_nums (fun o n => invF_bd b o n) (i + 1) z hz)⟩, HW4.out, HBZ.out.setCell (p := ⟨g, i + 1, none⟩) hge _⟩
            case measure => simp [intOf]; omega
      · have hil : i = 37 := by omega
        subst hil
        go_wp2_with fail
        go_ret
        exact ⟨_, rfl, HO.out.mono (by have := HSZ.out; omega), HBB.out.trans (HB.out.mono HBB.out.size)⟩
end Go.Proofs.YtngdpoeondnchaaGreat

set_option maxRecDepth 100000
set_option linter.unusedVariables false
set_option linter.unusedSimpArgs false
namespace Go.Proofs.YtngdpoeondnchaaGreat
open Go.RowKit

end Go.Proofs.YtngdpoeondnchaaGreat

