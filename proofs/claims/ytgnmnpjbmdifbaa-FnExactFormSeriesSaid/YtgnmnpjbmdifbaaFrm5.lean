/- Walk: FormSeries of the program. -/
import Derived.Test.YtgnmnpjbmdifbaaFrm2
import Derived.Test.YtgnmnpjbmdifbaaFrm4
import Derived.Test.YtgnmnpjbmdifbaaVec3
set_option maxRecDepth 100000
set_option linter.unusedVariables false
set_option linter.unusedSimpArgs false
namespace Go.Proofs.Ytgnmnpjbmdifbaa
open Go.RowKit

theorem run_make7 (W : World) : (Instr.makeSlice 23 (.int .i64 7) (.int .i64 7)).run Try.prog W = .ok (.slice (some ⟨W.heap.size, 0, none⟩) 7 7) (W.alloc (.cells (madeCells #[.int .i64 0] 7) tI)) := run_make T_int 7 (by omega) W

def fsRow (ser q : List (List Int)) (i : Nat) (out : List Int) : Nat → List Int
  | 0 => out
  | k + 1 => addk (ent q i k) (fsRow ser q i out k) (mulS (ser.getD i []) (ser.getD k []))
def fsAll (ser q : List (List Int)) : Nat → List Int
  | 0 => List.replicate 7 0
  | i + 1 => fsRow ser q i (fsAll ser q i) q.length
theorem fsRow_len (ser q : List (List Int)) (i : Nat) (out : List Int) (k : Nat) : (fsRow ser q i out k).length = out.length := by
  induction k with
  | zero => rfl
  | succ k ih => rw [fsRow, addk_len, ih]
theorem fsAll_len (ser q : List (List Int)) (i : Nat) : (fsAll ser q i).length = 7 := by
  induction i with
  | zero => simp [fsAll]
  | succ i ih => rw [fsAll, fsRow_len, ih]
theorem fsRow_nums {ser q : List (List Int)} {i : Nat} {out : List Int} (h : Nums out) (k : Nat) : Nums (fsRow ser q i out k) := by
  cases k with
  | zero => exact h
  | succ k => exact addTo_nums _ _ _ _
theorem fsAll_nums (ser q : List (List Int)) (i : Nat) : Nums (fsAll ser q i) := by
  induction i with
  | zero => intro z hz; simp [fsAll] at hz; omega
  | succ i ih => exact fsRow_nums ih _

/-- the code of a field, a matrix and a vector series -/
def chkFS (n : Int) (pss : List (List Mono)) (q xss : List (List Int)) : Int := if fieldB n pss && formB n q then (if serB n xss then 0 else 2) else 1
structure FsOk (n : Int) (q xss : List (List Int)) (m : Nat) : Prop where
  nm : n = (m : Int)
  m1 : 1 ≤ m
  m3 : m ≤ 3
  ql : q.length = m
  qr : ∀ zs ∈ q, zs.length = m ∧ Nums zs
  xl : xss.length = 7
  xr : ∀ zs ∈ xss, zs.length = m ∧ Nums zs
theorem fsOk {n : Int} {pss : List (List Mono)} {q xss : List (List Int)} (h : chkFS n pss q xss = 0) : FsOk n q xss n.toNat := by
  unfold chkFS at h
  by_cases h1 : (fieldB n pss && formB n q) = true
  · rw [if_pos h1] at h
    by_cases h2 : serB n xss = true
    · simp only [Bool.and_eq_true] at h1
      have h6 : inR n 1 3 = true := by have := h1.1; simp only [fieldB, Bool.and_eq_true] at this; exact this.1
      have h7 := inR_iff.1 h6
      have h8 : frameB n q = true := by have := h1.2; simp only [formB, Bool.and_eq_true] at this; exact this.1
      obtain ⟨h9, h10⟩ := frameOk h8
      simp only [serB, Bool.and_eq_true, decide_eq_true_eq, List.all_eq_true] at h2
      refine ⟨by omega, by omega, by omega, by omega, fun zs hz => ?_, h2.1, fun zs hz => ?_⟩
      · have := h9.row zs hz
        exact ⟨by omega, this.2⟩
      · have := h2.2 zs hz
        simp only [vecB, Bool.and_eq_true, decide_eq_true_eq] at this
        exact ⟨by omega, nums_iff.1 this.2⟩
    · rw [if_neg h2] at h; cases h
  · rw [if_neg h1] at h; cases h
/-- what FormSeries answers -/
def fsR (n : Int) (pss : List (List Mono)) (q xss : List (List Int)) : List Int := if chkFS n pss q xss = 0 then fsAll (trn xss n.toNat) q q.length else []
theorem trn_row {n : Int} {q xss : List (List Int)} {m : Nat} (h : FsOk n q xss m) : ∀ zs ∈ trn xss m, zs.length = 7 ∧ Nums zs := by
  intro zs hz
  obtain ⟨k, hk, rfl⟩ := List.mem_map.1 hz
  have hk := List.mem_range.1 hk
  refine ⟨by rw [List.length_map, h.xl], fun z hz => ?_⟩
  obtain ⟨ys, hy, rfl⟩ := List.mem_map.1 hz
  have hr := h.xr ys hy
  have hkl : k < ys.length := by omega
  refine hr.2 _ ?_
  simp only [List.getD, List.getElem?_eq_getElem hkl, Option.getD_some]
  exact List.getElem_mem _

set_option maxHeartbeats 4000000 in
theorem i_FormSeries (w : World) (v : Value) (n : Int) (pss : List (List Mono)) (u1 : Value) (q : List (List Int)) (u2 : Value) (xss : List (List Int)) (hf : FieldArg w v n pss) (hs : ∀ ms ∈ pss, ∀ m ∈ ms, m.2.length ≤ 4294967296) (hq : Rows w u1 q) (ha : Rows w u2 xss) :
    Calls Try.prog 37 #[v, u1, u2] w fun e w' => ∃ r, e = .returned (.tuple #[r, .int .i64 (chkFS n pss q xss)]) ∧ OI w' w.heap.size w'.heap.size tI r (fsR n pss q xss) ∧ Below w.heap.size w w' := by
  have HF := Lib.hid hf
  have HQ := Lib.hid hq
  have HA := Lib.hid ha
  have HS := Lib.hid hs
  obtain ⟨vp, rfl, hn64, hP⟩ := hf
  obtain ⟨A, c, rfl, -, -, -⟩ := hP.open_
  obtain ⟨Aq, cq, rfl, -, -, hq3⟩ := hq.open_
  obtain ⟨A', c', rfl, l1, l2, -⟩ := ha.open_
  have Q3 := Lib.hid hq3
  have B0 := Lib.hid (below1 w (.cells #[.int .i64 n, .slice A pss.length c] 40))
  have K0 := Lib.hid (Blk.new w #[.int .i64 n, .slice A pss.length c] 40)
  clear ha hP hs hq hq3
  have HR := Lib.hid (show fsR n pss q xss = if chkFS n pss q xss = 0 then fsAll (trn xss n.toNat) q q.length else [] from rfl)
  have HSO := Lib.hid (show chkFS n pss q xss = 0 → FsOk n q xss n.toNat from fsOk)
  have HCK := Lib.hid (show chkFS n pss q xss = if fieldB n pss && formB n q then (if serB n xss then 0 else 2) else 1 from rfl)
  generalize fsR n pss q xss = R at HR ⊢
  generalize chkFS n pss q xss = code at HR HSO HCK ⊢
  go_enter Try.func37, Try.ntmps37
  go_wp2_with fail
  refine (i_IsField _ _ n pss (HF.out.below B0.out) HS.out).mono ?_
  rintro e w1 ⟨rfl, hb1⟩
  have B1 := Lib.hid (B0.out.trans (hb1.mono B0.out.size))
  have K1 := Lib.hid (K0.out.below hb1 K0.out.lt)
  clear hb1 B0 K0
  have g0 : w1.cell? ⟨w.heap.size, 0, none⟩ = some (.int .i64 n) := K1.out.cell 0
  have g1 : w1.cell? ⟨w.heap.size, 1, none⟩ = some (.slice A pss.length c) := K1.out.cell 1
  cases hfb : fieldB n pss with
  | false =>
    have HC := Lib.hid (show code = 1 by rw [HCK.out, hfb]; rfl)
    have HR2 := Lib.hid (show R = [] by rw [HR.out, if_neg (by rw [HC.out]; decide)])
    clear hfb
    go_wp2_with fail
    go_ret2
    refine ⟨_, ret_tup HC.out.symm, ?_, B1.out⟩
    rw [HR2.out]; exact OI.nil _ _ _ _
  | true =>
    go_wp2_with fail
    refine (im_isForm _ n _ _ q ⟨_, _, _, rfl⟩ (HQ.out.below B1.out)).mono ?_
    rintro e w2 ⟨rfl, hb2⟩
    have B2 := Lib.hid (B1.out.trans (hb2.mono B1.out.size))
    have K2 := Lib.hid (K1.out.below hb2 K1.out.lt)
    clear hb2 B1 K1 g0 g1
    have g0 : w2.cell? ⟨w.heap.size, 0, none⟩ = some (.int .i64 n) := K2.out.cell 0
    have g1 : w2.cell? ⟨w.heap.size, 1, none⟩ = some (.slice A pss.length c) := K2.out.cell 1
    cases hfo : formB n q with
    | false =>
      have HC := Lib.hid (show code = 1 by rw [HCK.out, hfb, hfo]; rfl)
      have HR2 := Lib.hid (show R = [] by rw [HR.out, if_neg (by rw [HC.out]; decide)])
      clear hfb hfo
      go_wp2_with fail
      go_ret2
      refine ⟨_, ret_tup HC.out.symm, ?_, B2.out⟩
      rw [HR2.out]; exact OI.nil _ _ _ _
    | true =>
      go_wp2_with fail
      refine (im_isVectorSeries _ n _ _ xss ⟨_, _, _, rfl⟩ (HA.out.below B2.out)).mono ?_
      rintro e w3 ⟨rfl, hb3⟩
      have B3 := Lib.hid (B2.out.trans (hb3.mono B2.out.size))
      clear hb3 B2 K2 g0 g1
      cases hsb : serB n xss with
      | false =>
        have HC := Lib.hid (show code = 2 by rw [HCK.out, hfb, hfo, hsb]; rfl)
        have HR2 := Lib.hid (show R = [] by rw [HR.out, if_neg (by rw [HC.out]; decide)])
        clear hfb hfo hsb
        go_wp2_with fail
        go_ret2
        refine ⟨_, ret_tup HC.out.symm, ?_, B3.out⟩
        rw [HR2.out]; exact OI.nil _ _ _ _
      | true =>
        have HC := Lib.hid (show code = 0 by rw [HCK.out, hfb, hfo, hsb]; rfl)
        have HO := Lib.hid (HSO.out HC.out)
        have HR2 := Lib.hid (show R = fsAll (trn xss n.toNat) q q.length by rw [HR.out, if_pos HC.out])
        generalize n.toNat = m at HO HR2
        have hm3 := HO.out.m3
        have HTL := Lib.hid (trn_len xss m)
        have HTR := Lib.hid (trn_row HO.out)
        have HXR := Lib.hid (show ∀ zs ∈ xss, zs.length = m from fun zs hz => (HO.out.xr zs hz).1)
        have HXL := Lib.hid HO.out.xl
        have HQL := Lib.hid HO.out.ql
        have HQR := Lib.hid HO.out.qr
        have hql : q.length ≤ 3 := by have := HO.out.ql; omega
        clear hfb hfo hsb HSO HCK HR
        go_wp2_with fail
        have hmk := run_make7
        go_region_law ((go_simp; go_at_call 81; refine (i_turned _ _ xss m ((HA.out.below B3.out).below (by first | exact (Below.refl _ _).drew | exact (below1 _ _).drew)) HXL.out HXR.out hm3).mono ?_; rintro e wt ⟨r5, rfl, ho5, hb5⟩; obtain ⟨A5, c5, hv5, -, -, -⟩ := ho5.rows.open_; rw [trn_len] at hv5; subst hv5))
        all_goals
          clear hmk
          first
            | (have hb6 : Below w3.heap.size w3 wt := below_of_drew hb5
               have HSER := Lib.hid ((ho5.below (below1 wt (.cells (madeCells #[.int .i64 0] 7) tI))).rows)
               have HOUT := Lib.hid ((own_made wt tI (.int .i64 0) 7 (by simp [maxLen])).mono (Nat.le_trans B3.out.size hb6.size))
               have HBF := Lib.hid ((B3.out.trans (hb6.mono B3.out.size)).trans ((below1 wt (.cells (madeCells #[.int .i64 0] 7) tI)).mono (Nat.le_trans B3.out.size hb6.size)))
               clear ho5 hb5 hb6
               generalize (wt.alloc (.cells (madeCells #[.int .i64 0] 7) tI)) = wf at HSER HOUT HBF ⊢
               generalize wt.heap.size = gg at HOUT ⊢)
            | (have hb6 : Below (w3.alloc (.cells (madeCells #[.int .i64 0] 7) tI)).heap.size (w3.alloc (.cells (madeCells #[.int .i64 0] 7) tI)) wt := below_of_drew hb5
               have HSER := Lib.hid ho5.rows
               have HOUT := Lib.hid (((own_made w3 tI (.int .i64 0) 7 (by simp [maxLen])).below hb6).mono B3.out.size)
               have HBF := Lib.hid (B3.out.trans (((below1 w3 (.cells (madeCells #[.int .i64 0] 7) tI)).trans (hb6.mono (below1 w3 (.cells (madeCells #[.int .i64 0] 7) tI)).size)).mono B3.out.size))
               clear ho5 hb5 hb6
               generalize w3.heap.size = gg at HOUT ⊢
               generalize wt = wf at HSER HOUT HBF ⊢)
          clear HA HXR HXL
          generalize trn xss m = ser at HTL HTR HR2 HSER
          obtain ⟨As, cs, hvs, hs1, hs2, hs3⟩ := HSER.out.open_
          rw [HTL.out] at hvs
          simp only [Value.slice.injEq] at hvs
          obtain ⟨rfl, -, rfl⟩ := hvs
          have S3 := Lib.hid hs3
          rw [HTL.out] at hs1
          clear hs3 HSER
          go_wp2_with fail
          go_loopw [9, 34] (fun o i wr => ∃ (j : Nat), j ≤ q.length ∧ i = .int .i64 j ∧ OwnInts wr w.heap.size tI o (fsAll ser q j) ∧ Below wf.heap.size wf wr) (fun _ i _ => q.length - (intOf i).toNat)
          case atStart => exact ⟨0, Nat.zero_le _, rfl, ⟨by simpa [fsAll, ints] using HOUT.out, fun z hz => by simp [fsAll] at hz; unfold In64; omega⟩, Below.refl _ _⟩
          case round =>
            obtain ⟨j, hj, rfl, ht, hb⟩ := hrel
            clear HOUT
            have HT := Lib.hid ht
            have HB := Lib.hid hb
            clear ht hb
            by_cases hlt : j < q.length
            · obtain ⟨adq, uq, qr, rfl, hz, hu, hc0⟩ := Q3.out j hlt
              obtain ⟨Ar, cr, rfl, hr1, hr2, hu3⟩ := hu.open_
              have U3 := Lib.hid hu3
              have HZ := Lib.hid hz
              have hc : wr.cell? (adq.add j) = some (.slice Ar qr.length cr) := by
                rw [(HBF.out.trans (HB.out.mono HBF.out.size)).cell (by rw [block_add]; have := World.block_lt_of_cell? w _ hc0; rwa [block_add] at this)]; exact hc0
              have HQZ := Lib.hid (HQR.out qr (List.mem_of_getElem? hz))
              have HRL := Lib.hid (show qr.length = q.length by rw [(HQR.out qr (List.mem_of_getElem? hz)).1, HQL.out])
              have hrl : qr.length ≤ 3 := by have := HRL.out; omega
              have HJM := Lib.hid (show j < m by rw [← HQL.out]; exact hlt)
              clear hz hu hc0 hu3
              go_wp2_with fail
              clear hc
              obtain ⟨wo, rfl⟩ : ∃ wo : World, wo = wr := ⟨_, rfl⟩
              go_loopw [9, 41] (fun o i wi => ∃ (k : Nat), k ≤ qr.length ∧ i = .int .i64 k ∧ OwnInts wi w.heap.size tI o (fsRow ser q j (fsAll ser q j) k) ∧ Below wf.heap.size wf wi) (fun _ i _ => qr.length - (intOf i).toNat)
              case atStart => exact ⟨0, Nat.zero_le _, rfl, HT.out, HB.out⟩
              case round =>
                obtain ⟨k, hk, rfl, ht, hb⟩ := hrel
                clear HT HB
                have HT := Lib.hid ht
                have HB := Lib.hid hb
                clear ht hb
                by_cases hlt2 : k < qr.length
                · obtain ⟨adx, x, rfl, hx, -, hcx0⟩ := U3.out k hlt2
                  have hcx : wr.cell? (adx.add k) = some (.int .i64 x) := by
                    rw [(HBF.out.trans (HB.out.mono HBF.out.size)).cell (by rw [block_add]; have := World.block_lt_of_cell? w _ hcx0; rwa [block_add] at this)]; exact hcx0
                  have hxn := HQZ.out.2 x (List.mem_of_getElem? hx)
                  have HKM := Lib.hid (show k < m by rw [← HQL.out, ← HRL.out]; exact hlt2)
                  obtain ⟨ad1, u1, s1, rfl, hz1, hw1, hc1⟩ := S3.out j (by rw [HTL.out]; exact HJM.out)
                  obtain ⟨ad2, u2, s2, he, hz2, hw2, hc2⟩ := S3.out k (by rw [HTL.out]; exact HKM.out)
                  simp only [Option.some.injEq] at he
                  subst he
                  have HAB := Lib.hid (show ad1.block < wf.heap.size by have := World.block_lt_of_cell? wf _ hc1; rwa [block_add] at this)
                  have q1 : wr.cell? (ad1.add j) = some u1 := by rw [HB.out.cell (by rw [block_add]; exact HAB.out)]; exact hc1
                  have q2 : wr.cell? (ad1.add k) = some u2 := by rw [HB.out.cell (by rw [block_add]; exact HAB.out)]; exact hc2
                  have W1 := Lib.hid (hw1.below HB.out)
                  have W2 := Lib.hid (hw2.below HB.out)
                  have R1 := Lib.hid (HTR.out s1 (List.mem_of_getElem? hz1))
                  have R2 := Lib.hid (HTR.out s2 (List.mem_of_getElem? hz2))
                  have HS2 := Lib.hid (show fsRow ser q j (fsAll ser q j) (k + 1) = addk x (fsRow ser q j (fsAll ser q j) k) (mulS s1 s2) by
                    rw [fsRow, ent_of HZ.out hx]; simp [List.getD, hz1, hz2])
                  have HFL := Lib.hid (show (fsRow ser q j (fsAll ser q j) k).length = 7 by rw [fsRow_len, fsAll_len])
                  have HFN := Lib.hid (fsRow_nums (ser := ser) (q := q) (i := j) (fsAll_nums ser q j) k)
                  have HXM := Lib.hid (show x % 10007 = x by omega)
                  have i1 : (j : Int) < (m : Int) := by have := HJM.out; omega
                  have i2 : (k : Int) < (m : Int) := by have := HKM.out; omega
                  have i3 : (k : Int) < (qr.length : Int) := by omega
                  clear hx hcx0 hz1 hz2 hw1 hw2 hc1 hc2
                  generalize fsRow ser q j (fsAll ser q j) k = fo at HT HS2 HFL HFN
                  go_wp2_with fail
                  clear hcx
                  go_region_law (first
                    | (go_simp; go_at_call 82; refine (i_timesSeries _ _ _ s1 s2 (by exact W1.out.below (Below.refl _ _).drew) (by exact W2.out.below (Below.refl _ _).drew) R1.out.2 R2.out.2 (by rw [R1.out.1, R2.out.1]) (by rw [R1.out.1]; decide)).mono ?_; rintro e w5 ⟨r5, rfl, ho5, hb5⟩)
                    | (go_simp; go_at_call 73; refine (i_plus _ _ _ fo (mulS s1 s2) x (by exact HT.out.ints.below (below_of_drew hb5)) (by exact ho5.ints) HFN.out (mulS_nums _ _) (by rw [HFL.out, mulS_len, R1.out.1]; decide) (by rw [HFL.out]; decide) (by omega) (by omega)).mono ?_; rintro e w6 ⟨r6, rfl, ho6, hb6⟩; rw [HXM.out] at ho6))
                  all_goals
                    have HB5 := Lib.hid (below_of_drew hb5)
                    have HB6 := Lib.hid hb6
                    have HO6 := Lib.hid ho6
                    clear hb5 hb6 ho5 ho6 q1 q2
                    go_wp2_with fail
                    go_roundw
                    case rel =>
                      refine ⟨k + 1, by omega, by go_num, ?_, HB.out.trans ((HB5.out.trans (HB6.out.mono HB5.out.size)).mono HB.out.size)⟩
                      rw [HS2.out]
                      exact HO6.out.mono (Nat.le_trans (Nat.le_trans HBF.out.size HB.out.size) HB5.out.size)
                    case measure => simp [intOf]; omega
                · have hkq : k = qr.length := by omega
                  subst hkq
                  have HS3 := Lib.hid (show fsAll ser q (j + 1) = fsRow ser q j (fsAll ser q j) qr.length by rw [fsAll, HRL.out])
                  go_wp2_with fail
                  go_roundw
                  case rel => exact ⟨j + 1, by omega, by go_num, by rw [HS3.out]; exact HT.out, HB.out⟩
                  case measure => simp [intOf]; omega
            · have hjq : j = q.length := by omega
              subst hjq
              go_wp2_with fail
              go_ret2
              refine ⟨_, ret_tup HC.out.symm, ?_, HBF.out.trans (HB.out.mono HBF.out.size)⟩
              rw [HR2.out]
              exact ⟨HT.out, HT.out.1.lt⟩
end Go.Proofs.Ytgnmnpjbmdifbaa
