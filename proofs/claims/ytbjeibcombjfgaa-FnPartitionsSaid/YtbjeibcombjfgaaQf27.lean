/- Walks: PiecesOf of both. -/
import Derived.Test.YtbjeibcombjfgaaQf23
set_option maxRecDepth 100000
set_option linter.unusedVariables false
set_option linter.unusedSimpArgs false
namespace Go.Proofs.Ytbjeibcombjfgaa
open Go.RowKit

/-- what PiecesOf answers -/
def pcN (t : List Nat) (m : Nat) : List (List Nat) := (mapO (fun i => canO 9 (pieN t m i)) (0 :: cutsN m (t.length - 1) 1)).getD []
def pcOf (zs : List Int) (m : Int) : List (List Int) := if maskC zs m = 0 then (srtB (pcN (canN (toN zs)) m.toNat)).map up else []
theorem pcOf_eq {zs : List Int} {m : Int} {n t : List Nat} {k : Nat} {pcs : List (List Nat)} (h : Taken zs m n t k) (hc : maskC zs m = 0) (hr : mapO (fun i => canO 9 (pieN t k i)) (0 :: cutsN k (t.length - 1) 1) = some pcs) : pcOf zs m = (srtB pcs).map up := by
  unfold pcOf pcN
  rw [if_pos hc, h.zs, toN_up, h.m, Int.toNat_natCast]
  simp only [canN, h.can, Option.getD_some, hr]
theorem pieF_le (t : List Nat) (m root : Nat) : ∀ (ls : List Nat) (i : Nat) (inn : List Bool) (out : List Nat), (pieF t m root ls i inn out).length ≤ out.length + ls.length
  | [], i, inn, out => by rw [pieF]; exact Nat.le_refl _
  | l :: ls, i, inn, out => by
    rw [pieF_cons]
    cases Nat.blt root (parN t l i) && (inn.getD (parN t l i - 1) false && !m.testBit i) with
    | true => have := pieF_le t m root ls (i + 1) (inn.set i true) (out ++ [l - t.getD root 0]); simp at this ⊢; omega
    | false => have := pieF_le t m root ls (i + 1) inn out; simp at this ⊢; omega
theorem pieN_le (t : List Nat) (m root : Nat) (h : root < t.length) : (pieN t m root).length ≤ t.length := by
  unfold pieN
  have := pieF_le t m root (t.drop (root + 1)) (root + 1) ((List.replicate t.length false).set root true) [0]
  simp at this
  omega
theorem pcs_some {t : List Nat} {m : Nat} (hok : okCut t m = true) : ∃ pcs, mapO (fun i => canO 9 (pieN t m i)) (0 :: cutsN m (t.length - 1) 1) = some pcs := by
  obtain ⟨h1, h2, -⟩ := cut_parts hok
  rw [← h1]
  exact mapO_ex fun i hi => by
    obtain ⟨r, hr, -, -⟩ := canO_8 (h2 i hi).1 (h2 i hi).2.1
    exact ⟨r, hr⟩

theorem s_PiecesOf (w : World) (v : Value) (zs : List Int) (m : Int) (ha : Ints w v zs) :
    Calls Try.prog 48 #[v, .int .i64 m] w fun e w' => ∃ x, e = .returned (.tuple #[x, .int .i64 (maskC zs m)]) ∧ OR w' w.heap.size w'.heap.size tL tI x (pcOf zs m) ∧ Below w.heap.size w w' := by
  have HA := Lib.hid ha
  obtain ⟨A, c, rfl, l1, l2, -⟩ := ha.open_
  clear ha
  by_cases hc : maskC zs m = 0
  · obtain ⟨n, t, k, T⟩ := taken hc
    obtain ⟨pcs, hr⟩ := pcs_some (cut_ok T.tlv T.t8 T.tcan T.k2 T.ke)
    have HSK := Lib.hid (pcOf_eq T hc hr)
    have HR := Lib.hid hr
    have HT := Lib.hid T
    have hzl : zs.length = n.length := by rw [T.zs, up_len]
    have hcode : maskC (up n) (k : Int) = 0 := by rw [← T.zs, ← T.m]; exact hc
    rw [hc, HSK.out]
    rw [T.zs, up_len] at HA
    rw [hzl] at l1 ⊢
    have hco := s_l16Code w _ (up n) k HA.out
    rw [hcode] at hco
    have HCO := Lib.hid hco
    rw [T.m]
    clear hr T hc hzl hcode hco
    go_enter Try.func48, Try.ntmps48
    go_wp2_with (first
      | (go_at_call 93; refine HCO.out.mono ?_; rintro e w1 ⟨rfl, n1, rfl⟩)
      | (go_at_call 95; refine (s_l03Canon 9 _ _ n t (by exact HA.out.drewN n1) HT.out.can (by have := HT.out.n8; omega) HT.out.nl).mono ?_; rintro e w2 ⟨x2, rfl, hx2, hb2⟩; obtain ⟨A5, c5, he5, -, -, -⟩ := hx2.ints.open_; rw [up_len] at he5; subst he5; have HX2 := Lib.hid hx2; have HB2 := Lib.hid hb2; clear hx2 hb2)
      | (go_at_call 100; refine (s_l16Pieces _ _ t k pcs HX2.out.ints HT.out.t8 HT.out.t0 HT.out.k256 HT.out.tl HR.out (fun i hi => by have h1 := pieN_le t k i hi; have h2 := HT.out.t8; omega)).mono ?_; rintro e w3 ⟨x3, rfl, hx3, hb3⟩; have HX3 := Lib.hid hx3; have HB3 := Lib.hid hb3; clear hx3 hb3))
    go_ret2
    have hb2 : Below w.heap.size w w2 := (below_drewN (Below.refl _ _) n1).trans HB2.out
    exact ⟨_, rfl, (HX3.out.mono hb2.size).or, hb2.trans (HB3.out.mono hb2.size)⟩
  · have HSK := Lib.hid (show pcOf zs m = [] by unfold pcOf; rw [if_neg hc])
    have hd : (maskC zs m != 0) = true := by simp [hc]
    rw [HSK.out]
    generalize hq : maskC zs m = q at hc hd ⊢
    have HQ := Lib.hid hq
    clear hq hc
    go_enter Try.func48, Try.ntmps48
    go_wp2_with (go_at_call 93; refine (s_l16Code _ _ zs m HA.out).mono ?_; rintro e w1 ⟨rfl, n1, rfl⟩; rw [HQ.out])
    go_ret2
    exact ⟨_, rfl, (LA.nil _ _).or, below_drewN (Below.refl _ _) n1⟩

theorem i_PiecesOf (w : World) (v : Value) (zs : List Int) (m : Int) (ha : Ints w v zs) :
    Calls Try.prog 49 #[v, .int .i64 m] w fun e w' => ∃ x, e = .returned (.tuple #[x, .int .i64 (maskC zs m)]) ∧ OR w' w.heap.size w'.heap.size tL tI x (pcOf zs m) ∧ Below w.heap.size w w' := by
  have HA := Lib.hid ha
  obtain ⟨A, c, rfl, l1, l2, -⟩ := ha.open_
  clear ha
  by_cases hc : maskC zs m = 0
  · obtain ⟨n, t, k, T⟩ := taken hc
    obtain ⟨pcs0, hr⟩ := pcs_some (cut_ok T.tlv T.t8 T.tcan T.k2 T.ke)
    have HSK := Lib.hid (pcOf_eq T hc hr)
    have HR := Lib.hid hr
    have HT := Lib.hid T
    have hzl : zs.length = n.length := by rw [T.zs, up_len]
    have hcode : maskC (up n) (k : Int) = 0 := by rw [← T.zs, ← T.m]; exact hc
    rw [hc, HSK.out]
    rw [T.zs, up_len] at HA
    rw [hzl] at l1 ⊢
    have hco := i_checkCutMask w _ (up n) k HA.out
    rw [hcode] at hco
    have HCO := Lib.hid hco
    rw [T.m]
    clear hr T hc hzl hcode hco
    go_enter Try.func49, Try.ntmps49
    go_wp2_with (first
      | (go_at_call 96; refine HCO.out.mono ?_; rintro e w1 ⟨rfl, rfl⟩)
      | (go_at_call 98; refine (i_canonical 9 _ _ n t (by exact HA.out) HT.out.can (by have := HT.out.n8; omega) HT.out.nl).mono ?_; rintro e w2 ⟨x2, rfl, hx2, hb2⟩; obtain ⟨A5, c5, he5, -, -, -⟩ := hx2.ints.open_; rw [up_len] at he5; subst he5; have HX2 := Lib.hid hx2; have HB2 := Lib.hid hb2; clear hx2 hb2)
      | (go_at_call 97; refine (i_cutUp _ _ t k HX2.out.ints HT.out.tlv HT.out.t8 HT.out.tcan HT.out.k2 HT.out.ke HT.out.tl).mono ?_; rintro e w3 ⟨x3, y3, pcs, r, rfl, hpc, hr3, hx3, hy3, hb3⟩; have HX3 := Lib.hid hx3; have HPC := Lib.hid hpc; have HB3 := Lib.hid hb3; clear hx3 hy3 hb3 hpc hr3))
    go_ret2
    have hb2 := HB2.out
    have e : pcs = pcs0 := by have h1 := HPC.out; rw [HR.out] at h1; injection h1 with h1; exact h1.symm
    rw [← e]
    exact ⟨_, rfl, (HX3.out.mono hb2.size).or, hb2.trans (HB3.out.mono hb2.size)⟩
  · have HSK := Lib.hid (show pcOf zs m = [] by unfold pcOf; rw [if_neg hc])
    have hd : (maskC zs m != 0) = true := by simp [hc]
    rw [HSK.out]
    generalize hq : maskC zs m = q at hc hd ⊢
    have HQ := Lib.hid hq
    clear hq hc
    go_enter Try.func49, Try.ntmps49
    go_wp2_with (go_at_call 96; refine (i_checkCutMask _ _ zs m HA.out).mono ?_; rintro e w1 ⟨rfl, rfl⟩; rw [HQ.out])
    go_ret2
    exact ⟨_, rfl, (LA.nil _ _).or, Below.refl _ _⟩
end Go.Proofs.Ytbjeibcombjfgaa

