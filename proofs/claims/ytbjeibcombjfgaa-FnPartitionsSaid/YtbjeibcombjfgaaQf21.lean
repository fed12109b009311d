/- Walks: l16Piece, l16Pieces of the reference. | Walk: l16Pieces of the reference. | Plain: the trees of at most eight nodes, cut up: the kernel looks at all of them. First part. | Plain: the trees of at most eight nodes, cut up: the kernel looks at all of them. Second part. | Plain: the trees of at most eight nodes, cut up: put together. -/
import Derived.Test.YtbjeibcombjfgaaQf11
import Derived.Test.YtbjeibcombjfgaaQf10
set_option maxRecDepth 100000
set_option linter.unusedVariables false
set_option linter.unusedSimpArgs false
namespace Go.Proofs.Ytbjeibcombjfgaa
open Go.RowKit

abbrev tB : TypeId := 4
theorem T_bool : ElemT Try.prog 159 4 (.bool false) 1 := ⟨Try.underlying159, by kernel_rfl, rfl, by omega⟩
def bools (bs : List Bool) : List Value := bs.map Value.bool
theorem bools_len (bs : List Bool) : (bools bs).length = bs.length := by simp [bools]
theorem parN_at {t : List Nat} {l : Nat} : ∀ {k p : Nat}, parN t l k = p + 1 → t.getD p 0 + 1 = l
  | 0, p, h => by cases h
  | k + 1, p, h => by
    rw [parN] at h
    cases hb : Nat.beq (t.getD k 0 + 1) l with
    | true =>
      rw [hb] at h
      simp only [cond_true] at h
      have := Nat.eq_of_beq_eq_true hb
      have e : k = p := by omega
      subst e
      exact this
    | false => rw [hb] at h; exact parN_at h

theorem pieF_cons (t : List Nat) (m root l : Nat) (ls : List Nat) (i : Nat) (inn : List Bool) (out : List Nat) : pieF t m root (l :: ls) i inn out =
    bif Nat.blt root (parN t l i) && (inn.getD (parN t l i - 1) false && !m.testBit i) then pieF t m root ls (i + 1) (inn.set i true) (out ++ [l - t.getD root 0]) else pieF t m root ls (i + 1) inn out := rfl

set_option maxHeartbeats 4000000 in
theorem s_l16Piece (w : World) (v : Value) (t : List Nat) (m root : Nat) (r : List Nat) (ha : Ints w v (up t)) (h8 : t.length ≤ 8) (hroot : root < t.length) (hm : m < 256) (hl : ∀ l ∈ t, l ≤ 1000000) (hr : canO 9 (pieN t m root) = some r) :
    Calls Try.prog 164 #[v, .int .i64 m, .int .i64 root] w fun e w' => ∃ x, e = .returned x ∧ OwnInts w' w.heap.size tI x (up r) ∧ Below w.heap.size w w' := by
  have HA := Lib.hid ha
  have HL := Lib.hid hl
  have HR := Lib.hid hr
  have HM := Lib.hid hm
  obtain ⟨A, c, rfl, l1, l2, h3⟩ := ha.open_
  rw [up_len] at l1 HA h3 ⊢
  have H3 := Lib.hid h3
  have OL := Lib.hid (show OwnInts (w.alloc (.cells #[.int .i64 0] tI)) w.heap.size tI (.slice (some ⟨w.heap.size, 0, none⟩) 1 1) (up [0]) from ⟨own_lit w tI [.int .i64 0] (by simp [maxLen]), fun z hz => by simp [up] at hz; subst hz; unfold In64; omega⟩)
  have hri : (root : Int) < (t.length : Int) := by omega
  have hr0 : (0 : Int) ≤ (root : Int) := by omega
  have hw1 : IntKind.i64.wrap ((root : Int) + 1) = (root : Int) + 1 := IntWalk.i64_in _ (by omega)
  clear ha hl hr hm h3
  go_enter Try.func164, Try.ntmps164
  go_wp2_with (at_make; refine wpList_mk rfl _ _ _ rfl _ _ _ T_bool t.length _ (by rfl) (by rfl) (by rfl) (by omega) _ ?_; intro w1 hown hb hs1; have hb' := hb; rw [size_alloc'] at hown hb' hs1; obtain ⟨u0, -, q0, q1, -, -, hst, hgb⟩ := hown.storeAt (k := root) (by simp; exact hroot) (.bool true); have HST := Lib.hid (hst.mono (Nat.le_succ _)); have HO1 := Lib.hid ((OL.out.below hb).kept (v' := .slice (some ⟨w.heap.size + 1, 0, none⟩) t.length t.length) hgb (((OL.out.below hb).1.bt).ne hown.bt (by decide))); have HB1 := Lib.hid (((below1 w (.cells #[.int .i64 0] tI)).trans (hb'.mono (Nat.le_succ _))).setCell (p := ⟨w.heap.size + 1, root, none⟩) (Nat.le_succ _) (.bool true)); clear hown hb hb' hst hgb)
  have HIN0 := Lib.hid (show Own (w1.setCell ⟨w.heap.size + 1, root, none⟩ (.bool true)) w.heap.size tB (.slice (some ⟨w.heap.size + 1, 0, none⟩) t.length t.length) (bools ((List.replicate t.length false).set root true)) from by
    simpa [bools, List.map_set] using HST.out)
  have HG := Lib.hid (show w.heap.size ≤ w.heap.size + 1 from Nat.le_succ _)
  generalize hgg : w.heap.size + 1 = g at HIN0 HO1 HB1 HG ⊢
  generalize (w1.setCell ⟨g, root, none⟩ (.bool true)) = w5 at HIN0 HO1 HB1 ⊢
  have HLR := Lib.hid (HL.out (t[root]'hroot) (List.getElem_mem _))
  clear OL HST q0 q1 hs1 hgg
  go_loopw [7, 9] (fun o x wr => ∃ (i : Nat) (inn : List Bool) (out : List Nat), root + 1 ≤ i ∧ i ≤ t.length ∧ x = .int .i64 i ∧ Own wr w.heap.size tB (.slice (some ⟨g, 0, none⟩) t.length t.length) (bools inn) ∧ inn.length = t.length ∧
    OwnInts wr w.heap.size tI o (up out) ∧ Below w.heap.size w wr ∧ Hid (pieF t m root (t.drop i) i inn out = pieN t m root) ∧ out.length ≤ i ∧ Hid (∀ l ∈ out, l ≤ 1000000) ∧ Hid (∀ k, inn[k]? = some true → t.getD root 0 ≤ t.getD k 0)) (fun _ x _ => t.length - (intOf x).toNat)
  case atStart =>
    refine ⟨root + 1, _, [0], Nat.le_refl _, hroot, by go_num, HIN0.out, by simp, HO1.out, HB1.out, rfl, by simp, fun l hl => by simp at hl; omega, fun k hk => ?_⟩
    by_cases hkr : root = k
    · subst hkr; exact Nat.le_refl _
    · rw [List.getElem?_set_ne hkr, List.getElem?_replicate] at hk
      split at hk <;> cases hk
  case round =>
    obtain ⟨i, inn, out, hri1, hit, rfl, hin, hil, hout, hbw, HP, hol, HOL, HIL⟩ := hrel
    clear HIN0 HO1 HB1
    have HIN := Lib.hid hin
    have HIE := Lib.hid hil
    have HOU := Lib.hid hout
    have HB := Lib.hid hbw
    clear hin hil hout hbw
    by_cases hlt : i < t.length
    · obtain ⟨ad, zi, rfl, hzi, -, hci0⟩ := H3.out i hlt
      obtain ⟨ad', zr, hae, hzr, -, hcr0⟩ := H3.out root hroot
      injection hae with hae
      subst hae
      obtain ⟨L, hL, rfl⟩ := up_getD hzi
      obtain ⟨R, hR, rfl⟩ := up_getD hzr
      have hLi : t[i]'hlt = L := by rw [List.getElem?_eq_getElem hlt] at hL; injection hL
      have hgR : t.getD root 0 = R := by simp [List.getD, hR]
      have hgL : t.getD i 0 = L := by simp [List.getD, hL]
      have hci : ∀ W : World, Below w.heap.size w W → W.cell? (ad.add i) = some (.int .i64 (L : Int)) := fun W hW => by
        rw [hW.cell (by rw [block_add]; have := World.block_lt_of_cell? w _ hci0; rwa [block_add] at this)]; exact hci0
      have hcr : ∀ W : World, Below w.heap.size w W → W.cell? (ad.add root) = some (.int .i64 (R : Int)) := fun W hW => by
        rw [hW.cell (by rw [block_add]; have := World.block_lt_of_cell? w _ hcr0; rwa [block_add] at this)]; exact hcr0
      have HCI := Lib.hid hci
      have HCR := Lib.hid hcr
      have HLB := Lib.hid (HL.out L (List.mem_of_getElem? hL))
      have hpf := HP.out
      rw [List.drop_eq_getElem_cons hlt, hLi, pieF_cons, hgR] at hpf
      have hp1 := fun W (h : Ints W (.slice (some ad) t.length c) (up t)) => s_l16Parent W _ t i h hlt HL.out
      simp only [hgL] at hp1
      have hpl := parN_le t L i
      have hpa := fun p => @parN_at t L i p
      have HGR := Lib.hid hgR
      have HGL := Lib.hid hgL
      have HIL2 := Lib.hid HIL.out
      obtain ⟨hb0, -⟩ := bit64 m i HM.out
      have hii : (i : Int) < (t.length : Int) := by omega
      have hi0 : (0 : Int) ≤ (i : Int) := by omega
      have hi64 : (i : Int) ≤ 64 := by omega
      have hwu : IntKind.u64.wrap (i : Int) = (i : Int) := IntWalk.u64_in _ (by omega)
      generalize parN t L i = p at hpf hp1 hpl hpa
      have HPA := Lib.hid hpa
      clear hci0 hcr0 hzi hzr hL hR hLi hgR hgL hci hcr hpa HP
      by_cases hrp : root < p
      · obtain ⟨k, rfl⟩ : ∃ k, p = k + 1 := ⟨p - 1, by omega⟩
        have hkz : (((k + 1 : Nat) : Int) - 1) = (k : Int) := by omega
        simp only [hkz] at hp1
        have HP1 := Lib.hid hp1
        rw [(blt_iff _ _).2 hrp, Nat.add_sub_cancel, Bool.true_and] at hpf
        have hge : (root : Int) ≤ (k : Int) := by omega
        have hge2 : root ≤ k := by omega
        have hki : (k : Int) < (t.length : Int) := by omega
        have hk0 : (0 : Int) ≤ (k : Int) := by omega
        have hkt : k < inn.length := by rw [HIE.out]; omega
        have hbk : inn[k]? = some (inn[k]'hkt) := List.getElem?_eq_getElem _
        have hgb : inn.getD k false = inn[k]'hkt := by simp [List.getD, hbk]
        rw [hgb] at hpf
        have hbc : ∀ n, (wr.drewN n).cell? ⟨g, k, none⟩ = some (.bool (inn[k]'hkt)) := fun n => by
          have h := HIN.out.cells
          obtain ⟨ad2, n2, c2, he, hc⟩ := h.at_ (k := k) (u := .bool (inn[k]'hkt)) (by simp [bools, hbk])
          simp only [Value.slice.injEq, Option.some.injEq] at he
          obtain ⟨rfl, -, -⟩ := he
          rw [addr_add] at hc
          exact hc
        have HKA := Lib.hid (HPA.out k rfl)
        have HIK := Lib.hid hbk
        generalize inn[k]'hkt = b at hpf hbc HIK
        clear hbk hgb hp1 hkz hrp HPA
        cases b with
        | false =>
          rw [Bool.false_and] at hpf
          have HPF := Lib.hid hpf
          clear hpf
          go_wp2_with (go_at_call 153; refine (HP1.out _ (HA.out.below HB.out)).mono ?_; rintro e w2 ⟨rfl, n2, rfl⟩)
          go_roundw
          case rel => exact ⟨i + 1, inn, out, by omega, by omega, by go_num, HIN.out.drewN n2, HIE.out, ⟨HOU.out.1.drewN n2, HOU.out.2⟩, below_drewN HB.out n2, HPF.out, by omega, HOL, HIL⟩
          case measure => simp [intOf]; omega
        | true =>
          rw [Bool.true_and] at hpf
          cases hbt : m.testBit i with
          | true =>
            rw [hbt] at hb0 hpf
            simp only [Bool.not_true] at hb0 hpf
            have HPF := Lib.hid hpf
            clear hpf hbt
            go_wp2_with (go_at_call 153; refine (HP1.out _ (HA.out.below HB.out)).mono ?_; rintro e w2 ⟨rfl, n2, rfl⟩)
            go_roundw
            case rel => exact ⟨i + 1, inn, out, by omega, by omega, by go_num, HIN.out.drewN n2, HIE.out, ⟨HOU.out.1.drewN n2, HOU.out.2⟩, below_drewN HB.out n2, HPF.out, by omega, HOL, HIL⟩
            case measure => simp [intOf]; omega
          | false =>
            rw [hbt] at hb0 hpf
            simp only [Bool.not_false, cond_true] at hb0 hpf
            have HPF := Lib.hid hpf
            have hRL : R ≤ L := by have h1 := HIL2.out k HIK.out; have h2 := HKA.out; rw [HGR.out] at h1; omega
            have hsub : ((L : Int) - (R : Int)) = ((L - R : Nat) : Int) := by omega
            have HSUB := Lib.hid hsub
            have hl6 := HLB.out
            have hwz : IntKind.i64.wrap ((L : Int) - (R : Int)) = (L : Int) - (R : Int) := IntWalk.i64_in _ (by omega)
            have hz64 : In64 ((L : Int) - (R : Int)) := by unfold In64; omega
            clear hpf hbt hsub
            go_upto_region 9 with (go_at_call 153; refine (HP1.out _ (HA.out.below HB.out)).mono ?_; rintro e w2 ⟨rfl, n2, rfl⟩)
            obtain ⟨u0, -, q0, q1, -, -, hst, hgb⟩ := (HIN.out.drewN n2).storeAt (k := i) (by rw [bools_len, HIE.out]; exact hlt) (.bool true)
            have HST := Lib.hid (show Own ((wr.drewN n2).setCell ⟨g, i, none⟩ (.bool true)) w.heap.size tB (.slice (some ⟨g, 0, none⟩) t.length t.length) (bools (inn.set i true)) from by simpa [bools, List.map_set] using hst)
            have HO1 := Lib.hid (OwnInts.kept (w := wr.drewN n2) (v' := .slice (some ⟨g, 0, none⟩) t.length t.length) ⟨HOU.out.1.drewN n2, HOU.out.2⟩ hgb ((HOU.out.1.drewN n2).bt.ne (HIN.out.drewN n2).bt (by decide)))
            have HB1 := Lib.hid ((below_drewN HB.out n2).setCell (p := ⟨g, i, none⟩) (by have := HG.out; omega) (.bool true))
            go_upto_region 10 with fail
            generalize ((wr.drewN n2).setCell ⟨g, i, none⟩ (.bool true)) = w6 at HST HO1 HB1 ⊢
            clear hst hgb q0 q1
            have c1 := HCI.out w6 HB1.out
            have c2 := HCR.out w6 HB1.out
            have hB6 := HB1.out.size
            go_region_law (refine stp_app1 T_int (B := w.heap.size) (W := w6.drew.alloc (.cells #[.int .i64 ((L : Int) - (R : Int))] tI)) (u := .int .i64 ((L : Int) - (R : Int))) (ad := ⟨w6.heap.size, 0, none⟩) (HO1.out.1.below (((Below.refl _ _).drew).alloc (Nat.le_refl _) _)) (by rw [ints_len, up_len]; omega) (by simp; omega) (by rfl) rfl (by rfl) (by rfl) (by rfl) ((Blk.new w6.drew _ _).cell 0) ?_; intro v7 w7 hown7 hgr7)
            all_goals
              have HN7 := Lib.hid hown7
              have hbd : Below w6.heap.size w6 (w6.drew.alloc (.cells #[.int .i64 ((L : Int) - (R : Int))] tI)) := ((Below.refl _ _).drew).alloc (Nat.le_refl _) _
              have HB7 := Lib.hid (hgr7.below (HB1.out.trans (hbd.mono hB6)) (by simp; omega) HO1.out.1.ge)
              have HI7 := Lib.hid ((HST.out.below hbd).kept hgr7.1 ((HST.out.below hbd).bt.ne (HO1.out.1.below hbd).bt (by decide)))
              clear hown7 hgr7 hbd c1 c2
              go_wp2_with fail
              go_roundw
              case rel =>
                refine ⟨i + 1, inn.set i true, out ++ [L - R], by omega, by omega, by go_num, HI7.out, by rw [List.length_set]; exact HIE.out, ?_, HB7.out, HPF.out, by simp; omega, fun l hl => ?_, fun k2 hk2 => ?_⟩
                · rw [up_append]
                  have e : up [L - R] = [(L : Int) - (R : Int)] := by rw [HSUB.out]; rfl
                  rw [e]
                  exact ⟨by simpa [ints] using HN7.out, fun y hy => by rcases List.mem_append.1 hy with hy | hy; exact HOU.out.2 y hy; simp at hy; subst hy; exact hz64⟩
                · rcases List.mem_append.1 hl with hl | hl
                  · exact HOL.out l hl
                  · simp at hl; omega
                · by_cases hik : i = k2
                  · subst hik; rw [HGR.out, HGL.out]; exact hRL
                  · rw [List.getElem?_set_ne hik] at hk2; exact HIL2.out k2 hk2
              case measure => simp [intOf]; omega
      · have hkz : ∃ z : Int, z = (p : Int) - 1 := ⟨_, rfl⟩
        obtain ⟨z, hz⟩ := hkz
        simp only [← hz] at hp1
        have HP1 := Lib.hid hp1
        have hge : ¬ ((root : Int) ≤ z) := by omega
        have hge2 : decide ((root : Int) ≤ z) = false := by simp; omega
        have hbl : Nat.blt root p = false := by
          cases h : Nat.blt root p with
          | true => exact absurd ((blt_iff _ _).1 h) hrp
          | false => rfl
        rw [hbl, Bool.false_and] at hpf
        have HPF := Lib.hid hpf
        clear hpf hp1 hz hbl hrp
        go_wp2_with (go_at_call 153; refine (HP1.out _ (HA.out.below HB.out)).mono ?_; rintro e w2 ⟨rfl, n2, rfl⟩)
        go_roundw
        case rel => exact ⟨i + 1, inn, out, by omega, by omega, by go_num, HIN.out.drewN n2, HIE.out, ⟨HOU.out.1.drewN n2, HOU.out.2⟩, below_drewN HB.out n2, HPF.out, by omega, HOL, HIL⟩
        case measure => simp [intOf]; omega
    · have : i = t.length := by omega
      subst this
      have hpf := HP.out
      rw [List.drop_eq_nil_of_le (Nat.le_refl _), pieF] at hpf
      subst hpf
      obtain ⟨A5, c5, ho5, -, -, -⟩ := HOU.out.ints.open_
      rw [up_len] at ho5
      subst ho5
      have hlt' : ¬ ((t.length : Int) < (t.length : Int)) := by omega
      have HPN := Lib.hid HOL.out
      clear HP HIL HOL
      go_wp2_with (go_at_call 95; refine (s_l03Canon 9 _ _ (pieN t m root) r HOU.out.ints HR.out (by omega) HPN.out).mono ?_; rintro e w6 ⟨x6, rfl, hx6, hb6⟩; have HX6 := Lib.hid hx6; have HB6 := Lib.hid hb6; clear hx6 hb6)
      go_ret
      exact ⟨_, rfl, HX6.out.mono HB.out.size, HB.out.trans (HB6.out.mono HB.out.size)⟩

end Go.Proofs.Ytbjeibcombjfgaa

set_option maxRecDepth 100000
set_option linter.unusedVariables false
set_option linter.unusedSimpArgs false
namespace Go.Proofs.Ytbjeibcombjfgaa
open Go.RowKit

set_option maxHeartbeats 4000000 in
theorem s_l16Pieces (w : World) (v : Value) (t : List Nat) (m : Nat) (pcs : List (List Nat)) (ha : Ints w v (up t)) (h8 : t.length ≤ 8) (h0 : 0 < t.length) (hm : m < 256) (hl : ∀ l ∈ t, l ≤ 1000000)
    (hp : mapO (fun i => canO 9 (pieN t m i)) (0 :: cutsN m (t.length - 1) 1) = some pcs) (hpl : ∀ i < t.length, (pieN t m i).length ≤ 8) :
    Calls Try.prog 100 #[v, .int .i64 m] w fun e w' => ∃ x, e = .returned x ∧ LA w' w.heap.size x ((srtB pcs).map up) ∧ Below w.heap.size w w' := by
  have HA := Lib.hid ha
  have HL := Lib.hid hl
  have HM := Lib.hid hm
  have HP := Lib.hid hp
  have HPL := Lib.hid hpl
  obtain ⟨A, c, rfl, l1, l2, -⟩ := ha.open_
  rw [up_len] at l1 HA ⊢
  obtain ⟨p0, rest, hpe, hp0, hrest⟩ := mapO_cons hp
  have HP0 := Lib.hid (s_l16Piece w _ t m 0 p0 HA.out h8 h0 hm hl hp0)
  have HREST := Lib.hid hrest
  have HPE := Lib.hid hpe
  have h00 : (((0 : Nat) : Int)) = 0 := rfl
  have HRL := Lib.hid (mapO_len hrest)
  have HCL := Lib.hid (show ∀ n i, (cutsN m n i).length ≤ n from by
    intro n
    induction n with
    | zero => intro i; exact Nat.le_refl _
    | succ n ih => intro i; rw [cutsN]; cases m.testBit i <;> simp <;> have := ih (i + 1) <;> omega)
  rw [h00] at HP0
  clear ha hl hm hp hpl hp0 hrest hpe h00
  go_enter Try.func100, Try.ntmps100
  go_wp2_with (go_at_call 164; refine HP0.out.mono ?_; rintro e w1 ⟨x1, rfl, ho1, hb1⟩; obtain ⟨A1, c1, he1, -, -, -⟩ := ho1.ints.open_; rw [up_len] at he1; subst he1; have OL := Lib.hid (show Own (w1.alloc (.cells #[.slice A1 p0.length c1] tL)) w.heap.size tL (.slice (some ⟨w1.heap.size, 0, none⟩) 1 1) [.slice A1 p0.length c1] from (own_lit w1 tL [.slice A1 p0.length c1] (by simp [maxLen])).mono hb1.size); have OR1 := Lib.hid (show RR (w1.alloc (.cells #[.slice A1 p0.length c1] tL)) w.heap.size [.slice A1 p0.length c1] [up p0] from RR.one (ho1.below (below1 w1 _))); have HB1 := Lib.hid (hb1.trans ((below1 w1 (.cells #[.slice A1 p0.length c1] tL)).mono hb1.size)); clear ho1 hb1)
  go_loopw [5, 6] (fun o x wr => ∃ (i : Nat) (vs : List Value), i + 1 ≤ t.length ∧ x = .int .i64 ((i : Int) + 1) ∧ Own wr w.heap.size tL o vs ∧ RR wr w.heap.size vs ((p0 :: rest.take (cutsN m i 1).length).map up) ∧ Below w.heap.size w wr) (fun _ x _ => t.length - (intOf x).toNat)
  case atStart => exact ⟨0, _, by omega, rfl, OL.out, by simpa [cutsN] using OR1.out, HB1.out⟩
  case round =>
    obtain ⟨i, vs, hi, rfl, hown, hrr, hbw⟩ := hrel
    clear OL OR1 HB1
    have HO := Lib.hid hown
    have HRR := Lib.hid hrr
    have HBW := Lib.hid hbw
    by_cases hlt : i + 1 < t.length
    · have hii : (i : Int) + 1 < (t.length : Int) := by omega
      have hi0 : (0 : Int) ≤ (i : Int) + 1 := by omega
      have hi64 : (i : Int) + 1 ≤ 64 := by omega
      have hwu : IntKind.u64.wrap ((i : Int) + 1) = (i : Int) + 1 := IntWalk.u64_in _ (by omega)
      have hcs := cutsN_succ m i 1
      rw [Nat.add_comm 1 i] at hcs
      obtain ⟨-, hb1⟩ := bit64 m (i + 1) HM.out
      have htn : ((i : Int) + 1).toNat = i + 1 := by omega
      have hw1 : IntKind.i64.wrap ((i : Int) + 1 + 1) = (i : Int) + 1 + 1 := IntWalk.i64_in _ (by omega)
      cases hbt : m.testBit (i + 1) with
      | false =>
        rw [hbt] at hb1 hcs
        have HCS := Lib.hid hcs
        clear hbt hown hrr hbw hcs
        go_wp2_with fail
        go_roundw
        case rel =>
          refine ⟨i + 1, vs, by omega, by go_num, HO.out, ?_, HBW.out⟩
          rw [HCS.out]
          simpa using HRR.out
        case measure => simp [intOf]; omega
      | true =>
        rw [hbt, if_pos rfl] at hcs
        rw [hbt] at hb1
        have hall : ∀ n, cutsN m (t.length - 1) 1 = cutsN m n 1 ++ (cutsN m (t.length - 1) 1).drop (cutsN m n 1).length ∨ ¬ n ≤ t.length - 1 := by
          intro n
          by_cases hn : n ≤ t.length - 1
          · left
            have : ∀ k, cutsN m (n + k) 1 = cutsN m n 1 ++ (cutsN m (n + k) 1).drop (cutsN m n 1).length := by
              intro k
              induction k with
              | zero => simp
              | succ k ih =>
                rw [show n + (k + 1) = (n + k) + 1 from rfl, cutsN_succ, ih]
                simp [List.drop_append]
            have h := this (t.length - 1 - n)
            rwa [show n + (t.length - 1 - n) = t.length - 1 by omega] at h
          · exact .inr hn
        have hat : (cutsN m (t.length - 1) 1)[(cutsN m i 1).length]? = some (i + 1) := by
          rcases hall (i + 1) with h | h
          · rw [h, hcs, List.append_assoc, List.getElem?_append_right (Nat.le_refl _), Nat.sub_self]; rfl
          · exact absurd (show i + 1 ≤ t.length - 1 by omega) h
        obtain ⟨q, hq, hqc⟩ := mapO_get HREST.out _ _ hat
        have hpc := s_l16Piece wr _ t m (i + 1) q (HA.out.below hbw) h8 hlt HM.out HL.out hqc
        have hcast : (((i + 1 : Nat)) : Int) = (i : Int) + 1 := by omega
        rw [hcast] at hpc
        have HPC := Lib.hid hpc
        have HTK := Lib.hid (show rest.take (cutsN m (i + 1) 1).length = rest.take (cutsN m i 1).length ++ [q] by rw [hcs, List.length_append, List.length_singleton, List.take_add_one, hq]; rfl)
        have hvl : vs.length ≤ 1000 := by have h1 := hrr.1; have h2 := HCL.out i 1; simp at h1; omega
        clear hbt hown hrr hbw hcs hall hat hq hqc hpc hcast
        go_wp2_with (first
          | (go_at_call 164; refine HPC.out.mono ?_; rintro e w2 ⟨r2, rfl, ho2, hb2⟩; obtain ⟨A5, c5, he5, -, -, -⟩ := ho2.ints.open_; rw [up_len] at he5; subst he5; have HO2 := Lib.hid (ho2.mono HBW.out.size); have HBI := Lib.hid hb2; have HB2 := Lib.hid (HBW.out.trans (hb2.mono HBW.out.size)); have HOW := Lib.hid (HO.out.below hb2); clear ho2 hb2)
          | (at_builtin; refine wpList_app1 T_row HOW.out (by omega) HB2.out.size (by rfl) rfl (by rfl) (by rfl) (by rfl) ?_; intro v1 w5 hown1 hgr1; have HN1 := Lib.hid hown1; have HGR := Lib.hid hgr1.1; have HB5 := Lib.hid (hgr1.below HB2.out HB2.out.size HOW.out.ge); clear hown1 hgr1))
        go_roundw
        case rel =>
          refine ⟨i + 1, _, by omega, by go_num, HN1.out, ?_, HB5.out⟩
          rw [HTK.out, ← List.cons_append, List.map_append]
          exact LL.snoc HOW.out (HRR.out.below HBI.out) HO2.out HN1.out HGR.out
        case measure => simp [intOf]; omega
    · have hin : i = t.length - 1 := by omega
      have HE := Lib.hid (show p0 :: rest.take (cutsN m i 1).length = pcs from by rw [hin, ← HRL.out, List.take_length]; exact HPE.out.symm)
      rw [HE.out] at HRR
      have HSB := Lib.hid (show ∀ b ∈ pcs, b.length ≤ 1000 from fun b hb => by
        obtain ⟨x, hx, hxb⟩ := mapO_all HP.out b hb
        have hxt : x < t.length := by
          rcases List.mem_cons.1 hx with rfl | hx
          · omega
          · have : ∀ n i, ∀ x ∈ cutsN m n i, x < i + n := by
              intro n
              induction n with
              | zero => intro i x hx; simp [cutsN] at hx
              | succ n ih =>
                intro i x hx
                rw [cutsN] at hx
                cases hb : m.testBit i with
                | true =>
                  rw [hb] at hx
                  simp only [cond_true] at hx
                  rcases List.mem_cons.1 hx with rfl | hx
                  · omega
                  · have := ih (i + 1) x hx; omega
                | false => rw [hb] at hx; have := ih (i + 1) x hx; omega
            have := this _ _ x hx
            omega
        rw [canO_len hxb]
        have := HPL.out x hxt
        omega)
      have HPN := Lib.hid (show pcs.length ≤ 1000 from by rw [mapO_len HP.out]; have := HCL.out (t.length - 1) 1; simp; omega)
      have hlt' : ¬ ((i : Int) + 1 < (t.length : Int)) := by omega
      have HROW := Lib.hid (HRR.out.rows HO.out)
      obtain ⟨A2, c2, rfl, -, -⟩ := hown.cells.open_
      clear hown hrr hbw hin
      go_wp2_with (go_at_call 165; refine (s_l03Sort _ _ pcs HROW.out HPN.out HSB.out).mono ?_; rintro e w6 ⟨x6, rfl, hx6, hb6⟩; have HX6 := Lib.hid hx6; have HB6 := Lib.hid hb6; clear hx6 hb6)
      go_ret
      exact ⟨_, rfl, HX6.out.mono HBW.out.size, HBW.out.trans (HB6.out.mono HBW.out.size)⟩
end Go.Proofs.Ytbjeibcombjfgaa

set_option maxRecDepth 100000
namespace Go.Proofs.Ytbjeibcombjfgaa
theorem okc_s : (List.range 6).all (fun m => (levs m).all okTree) = true := by decide +kernel
theorem okc_0 : (((levs 6).drop 0).take 20).all okTree = true := by decide +kernel
theorem okc_1 : (((levs 6).drop 20).take 40).all okTree = true := by decide +kernel
theorem okc_2 : (((levs 6).drop 60).take 72).all okTree = true := by decide +kernel
theorem okc_3 : (((levs 7).drop 0).take 16).all okTree = true := by decide +kernel
theorem okc_4 : (((levs 7).drop 16).take 22).all okTree = true := by decide +kernel
theorem okc_5 : (((levs 7).drop 38).take 18).all okTree = true := by decide +kernel
end Go.Proofs.Ytbjeibcombjfgaa

set_option maxRecDepth 100000
namespace Go.Proofs.Ytbjeibcombjfgaa
theorem okc_6 : (((levs 7).drop 56).take 16).all okTree = true := by decide +kernel
theorem okc_7 : (((levs 7).drop 72).take 44).all okTree = true := by decide +kernel
theorem okc_8 : (((levs 7).drop 116).take 30).all okTree = true := by decide +kernel
theorem okc_9 : (((levs 7).drop 146).take 92).all okTree = true := by decide +kernel
theorem okc_10 : (((levs 7).drop 238).take 191).all okTree = true := by decide +kernel
end Go.Proofs.Ytbjeibcombjfgaa

set_option linter.unusedVariables false
set_option linter.unusedSimpArgs false
set_option maxRecDepth 100000
namespace Go.Proofs.Ytbjeibcombjfgaa

theorem all_part {α : Type} {p : α → Bool} {l : List α} {a m : Nat} (h : ((l.drop a).take m).all p = true) (h' : (l.drop (a + m)).all p = true) : (l.drop a).all p = true := by
  rw [← List.take_append_drop m (l.drop a), List.all_append, h, List.drop_drop, h']; rfl
theorem all_end {α : Type} {p : α → Bool} {l : List α} {a : Nat} (h : Nat.ble l.length a = true) : (l.drop a).all p = true := by
  rw [List.drop_eq_nil_of_le (Nat.le_of_ble_eq_true h)]; rfl
theorem okc_six : (levs 6).all okTree = true := by
  have e := @all_end _ okTree (levs 6) 132 (by decide +kernel)
  have e2 := all_part (a := 60) (m := 72) okc_2 e
  have e1 := all_part (a := 20) (m := 40) okc_1 e2
  have e0 := all_part (a := 0) (m := 20) okc_0 e1
  simpa using e0
theorem okc_seven : (levs 7).all okTree = true := by
  have e := @all_end _ okTree (levs 7) 429 (by decide +kernel)
  have e10 := all_part (a := 238) (m := 191) okc_10 e
  have e9 := all_part (a := 146) (m := 92) okc_9 e10
  have e8 := all_part (a := 116) (m := 30) okc_8 e9
  have e7 := all_part (a := 72) (m := 44) okc_7 e8
  have e6 := all_part (a := 56) (m := 16) okc_6 e7
  have e5 := all_part (a := 38) (m := 18) okc_5 e6
  have e4 := all_part (a := 16) (m := 22) okc_4 e5
  have e3 := all_part (a := 0) (m := 16) okc_3 e4
  simpa using e3
theorem okTree_8 : (List.range 8).all (fun m => (levs m).all okTree) = true := by
  have h := okc_s
  rw [List.all_eq_true] at h ⊢
  intro m hm
  have hm8 := List.mem_range.1 hm
  by_cases h6 : m < 6
  · exact h m (List.mem_range.2 h6)
  · have : m = 6 ∨ m = 7 := by omega
    rcases this with rfl | rfl
    · exact okc_six
    · exact okc_seven
theorem cut_ok {t : List Nat} {m : Nat} (ht : lvl t = true) (hl : t.length ≤ 8) (hc : canO 9 t = some t) (hm : m < 2 ^ t.length) (h2 : m % 2 = 0) : okCut t m = true := by
  have h := lev8 okTree_8 ht hl
  rw [okTree, isCan, hc] at h
  simp only [eqN_iff.2 rfl, cond_true, List.all_eq_true, List.mem_range] at h
  have hpos : 0 < t.length := by obtain ⟨c, rfl, -⟩ := lvl_cons ht; simp
  have e : t.length = (t.length - 1) + 1 := by omega
  have h3 := h (m / 2) (by rw [e, Nat.pow_succ] at hm; omega)
  rwa [show 2 * (m / 2) = m by omega] at h3
/-- what the kernel has found -/
theorem cut_parts {t : List Nat} {m : Nat} (h : okCut t m = true) : (cutN t m).tops = 0 :: cutsN m (t.length - 1) 1 ∧ (∀ i ∈ (cutN t m).tops, lvl (pieN t m i) = true ∧ (pieN t m i).length ≤ 8 ∧ tfO 9 (cutN t m).near i 0 = canO 9 (pieN t m i)) ∧
    lvl (sklN t m) = true ∧ (sklN t m).length ≤ 8 ∧ tfO 9 (joinN (cutN t m)) 0 0 = canO 9 (sklN t m) := by
  unfold okCut at h
  simp only [Bool.and_eq_true, List.all_eq_true] at h
  obtain ⟨h1, h2, h3⟩ := h
  refine ⟨eqN_iff.1 h1, fun i hi => ?_, ?_⟩
  · have h4 := h2 i hi
    cases hr : rawO 9 (cutN t m).near i 0 with
    | none => rw [hr] at h4; cases h4
    | some q =>
      rw [hr] at h4
      simp only [Bool.and_eq_true] at h4
      have h5 := eqN_iff.1 h4.1
      subst h5
      have h8 := Nat.le_of_ble_eq_true h4.2
      obtain ⟨h6, h7⟩ := tfO_raw hr h8
      exact ⟨h6, h8, h7⟩
  · cases hr : rawO 9 (joinN (cutN t m)) 0 0 with
    | none => rw [hr] at h3; cases h3
    | some q =>
      rw [hr] at h3
      simp only [Bool.and_eq_true] at h3
      have h5 := eqN_iff.1 h3.1
      subst h5
      have h8 := Nat.le_of_ble_eq_true h3.2
      obtain ⟨h6, h7⟩ := tfO_raw hr h8
      exact ⟨h6, h8, h7⟩
end Go.Proofs.Ytbjeibcombjfgaa

