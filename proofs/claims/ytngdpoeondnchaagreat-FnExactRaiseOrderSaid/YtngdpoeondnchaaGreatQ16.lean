/- Walks: l03Grow, l03Trees of the reference. | Walks: l04End, l04Graft of the reference. | Walk: l04Graft of the reference. -/
import Derived.Test.YtngdpoeondnchaaGreatQ15
import Derived.Test.YtngdpoeondnchaaGreatQ11
set_option maxRecDepth 100000
set_option linter.unusedVariables false
set_option linter.unusedSimpArgs false
namespace Go.Proofs.YtngdpoeondnchaaGreat
open Go.RowKit

def downF : Nat → List Nat
  | 0 => []
  | l + 1 => (l + 1) :: downF l
def isCanG (t : List Nat) : Bool := match canO 9 t with | none => false | some r => eqN r t
/-- the canonical lists with n levels that begin with a list -/
def growF : Nat → List Nat → Nat → List (List Nat)
  | 0, t, n => bif Nat.beq t.length n then (bif isCanG t then [t] else []) else []
  | f + 1, t, n => bif Nat.beq t.length n then (bif isCanG t then [t] else []) else (downF (t.getD (t.length - 1) 0 + 1)).flatMap fun l => growF f (t ++ [l]) n
def eqLL : List (List Nat) → List (List Nat) → Bool
  | [], [] => true
  | a :: xs, b :: ys => eqN a b && eqLL xs ys
  | _, _ => false
theorem eqLL_eq : ∀ {a b : List (List Nat)}, eqLL a b = true → a = b
  | [], [], _ => rfl
  | [], _ :: _, h => by cases h
  | _ :: _, [], h => by cases h
  | a :: xs, b :: ys, h => by
    rw [eqLL, Bool.and_eq_true] at h
    rw [eqN_iff.1 h.1, eqLL_eq h.2]
theorem grow_trees8 : (List.range 8).all (fun n => eqLL (growF 8 [0] (n + 1)) (treesN (n + 1))) = true := by decide +kernel
theorem grow_trees {n : Nat} (h1 : 1 ≤ n) (h8 : n ≤ 8) : growF 8 [0] n = treesN n := by
  have h := grow_trees8
  rw [List.all_eq_true] at h
  have h2 := h (n - 1) (List.mem_range.2 (by omega))
  rw [show n - 1 + 1 = n by omega] at h2
  exact eqLL_eq h2

theorem Grow.refl (w : World) (v : Value) : Grow w w v v := ⟨World.grownBy.refl _ _, .inl rfl⟩
theorem Grow.of_below {w w' : World} {v : Value} (h : Below w.heap.size w w') : w.grownBy w' v.ownBlock := ⟨h.os, h.tape, h.output, h.size, fun k hk _ => h.block k hk⟩
theorem Grow.trans {w w1 w2 : World} {v v1 v2 : Value} (h : Grow w w1 v v1) (h' : Grow w1 w2 v1 v2) : Grow w w2 v v2 := by
  refine ⟨⟨h'.1.os.trans h.1.os, h'.1.tape.trans h.1.tape, h'.1.output.trans h.1.output, Nat.le_trans h.1.size h'.1.size, fun k hk hne => ?_⟩, ?_⟩
  · refine (h'.1.block k (Nat.lt_of_lt_of_le hk h.1.size) ?_).trans (h.1.block k hk hne)
    rcases h.2 with h2 | ⟨g, h2, h3⟩
    · rw [h2]; exact hne
    · rw [h2]; intro e; injection e with e; omega
  · rcases h'.2 with h3 | ⟨g, h3, h4⟩
    · rw [h3]; exact h.2
    · exact .inr ⟨g, h3, Nat.le_trans h.1.size h4⟩
theorem Grow.pre {w w1 w2 : World} {v v2 : Value} (hb : Below w.heap.size w w1) (h : Grow w1 w2 v v2) : Grow w w2 v v2 := Grow.trans ⟨Grow.of_below hb, .inl rfl⟩ h

set_option maxHeartbeats 4000000 in
theorem s_growLeaf (w : World) (v vo : Value) (t : List Nat) (n B Bt : Nat) (dn : List (List Nat)) (ht : OwnInts w Bt tI v (up t)) (ho : LA w B vo (dn.map up)) (hlv : lvl t = true) (htn : t.length = n) (hn8 : n ≤ 8) (hB : B ≤ w.heap.size) (hsz : dn.length ≤ 1000) :
    Calls Tryz.prog 180 #[v, .int .i64 n, vo] w fun e w' => ∃ x, e = .returned x ∧ LA w' B x ((dn ++ (bif isCanG t then [t] else [])).map up) ∧ Grow w w' vo x := by
  obtain ⟨r, hr, -, -⟩ := canO_8 hlv (by omega)
  have HR := Lib.hid hr
  have hcg : isCanG t = decide (up r = up t) := by
    unfold isCanG
    rw [hr]
    simp only
    by_cases e : r = t
    · rw [eqN_iff.2 e, e]; exact (decide_eq_true rfl).symm
    · have h1 : eqN r t = false := by
        cases hh : eqN r t with
        | true => exact absurd (eqN_iff.1 hh) e
        | false => rfl
      rw [h1]; exact (decide_eq_false fun h => e (up_inj h)).symm
  have HLL := Lib.hid (show ∀ l ∈ t, l ≤ 1000000 from fun l hl => by
    have hh := lev8 (p := fun t => t.all fun l => Nat.ble l 8) (by decide +kernel) hlv (by omega)
    rw [List.all_eq_true] at hh
    have := Nat.le_of_ble_eq_true (hh l hl)
    omega)
  obtain ⟨A, c, rfl, l1, l2, -⟩ := ht.ints.open_
  rw [up_len] at l1 ht ⊢
  have HT := Lib.hid ht
  obtain ⟨vs, hown, hrr, hap⟩ := ho
  have hvl : vs.length = dn.length := by rw [hrr.1, List.length_map]
  obtain ⟨Ao, co, rfl, -, -⟩ := hown.cells.open_
  rw [hvl] at hown ⊢
  have HO := Lib.hid hown
  have HRR := Lib.hid hrr
  have HAP := Lib.hid hap
  have hd : ((t.length : Int) == (n : Int)) = true := by simp [htn]
  have hvs : vs.length ≤ 1000 := by omega
  have ht8 : t.length ≤ 8 := by omega
  clear ht hown hrr hap hvl htn hr
  cases hb : decide (up r = up t) with
  | true =>
    have HCG := Lib.hid (show dn ++ (bif isCanG t then [t] else []) = dn ++ [t] from by rw [hcg, hb]; rfl)
    rw [HCG.out]
    have HBB := Lib.hid hb
    clear hcg hb
    go_enter Tryz.func180, Tryz.ntmps180
    go_wp2_with (first
      | (go_at_call 158; refine (s_l03Canon 9 _ _ t r HT.out.ints HR.out (by omega) HLL.out).mono ?_; rintro e w1 ⟨x1, rfl, ho1, hb1⟩; have HO1 := Lib.hid ho1; have HB1 := Lib.hid hb1; clear ho1 hb1)
      | (go_at_call 68; refine (s_l01Same _ _ _ (up r) (up t) HO1.out.ints (HT.out.ints.below HB1.out)).mono ?_; rintro e w2 ⟨rfl, n2, rfl⟩; rw [HBB.out])
      | (go_at_call 150; refine (s_l01OwnT _ _ (up t) ((HT.out.ints.below HB1.out).drewN n2) (by rw [up_len]; omega)).mono ?_; rintro e w3 ⟨x3, rfl, ho3, hb3⟩; obtain ⟨A5, c5, he5, -, -, -⟩ := ho3.ints.open_; rw [up_len] at he5; subst he5; have HO3 := Lib.hid ho3; have HB3 := Lib.hid (show Below w.heap.size w w3 from (below_drewN HB1.out n2).trans (hb3.mono HB1.out.size)); clear hb3 ho3)
      | (at_builtin; refine wpList_app1 T_row (HO.out.below HB3.out) (by omega) (Nat.le_trans hB HB3.out.size) (by rfl) rfl (by rfl) (by rfl) (by rfl) ?_; intro v1 w5 hown1 hgr1; have HN1 := Lib.hid hown1; have HGR := Lib.hid hgr1; clear hown1 hgr1))
    go_ret
    refine ⟨_, rfl, ⟨_, HN1.out, ?_, pairApart_snoc HAP.out (HRR.out.fresh (Nat.le_refl _) (fun b hb => Nat.le_trans HB1.out.size (HO3.out.1.ge b hb)))⟩, Grow.pre HB3.out HGR.out⟩
    rw [List.map_append]
    exact LL.snoc (HO.out.below HB3.out) (HRR.out.below HB3.out) (HO3.out.mono (Nat.le_trans hB HB1.out.size)) HN1.out HGR.out.1
  | false =>
    have HCG := Lib.hid (show dn ++ (bif isCanG t then [t] else []) = dn from by rw [hcg, hb]; simp)
    rw [HCG.out]
    have HBB := Lib.hid hb
    clear hcg hb
    go_enter Tryz.func180, Tryz.ntmps180
    go_wp2_with (first
      | (go_at_call 158; refine (s_l03Canon 9 _ _ t r HT.out.ints HR.out (by omega) HLL.out).mono ?_; rintro e w1 ⟨x1, rfl, ho1, hb1⟩; have HO1 := Lib.hid ho1; have HB1 := Lib.hid hb1; clear ho1 hb1)
      | (go_at_call 68; refine (s_l01Same _ _ _ (up r) (up t) HO1.out.ints (HT.out.ints.below HB1.out)).mono ?_; rintro e w2 ⟨rfl, n2, rfl⟩; rw [HBB.out]))
    go_ret
    have hb2 := below_drewN HB1.out n2
    exact ⟨_, rfl, ⟨vs, HO.out.below hb2, HRR.out.below hb2, HAP.out⟩, ⟨Grow.of_below hb2, .inl rfl⟩⟩

theorem lvlF_add : ∀ {p : Nat} {t : List Nat} {l : Nat}, lvlF p t = true → 1 ≤ l → l ≤ (p :: t).getD t.length 0 + 1 → lvlF p (t ++ [l]) = true
  | p, [], l, _, h1, h2 => by
    simp at h2
    rw [List.nil_append, lvlF, Nat.ble_eq_true_of_le h1, Nat.ble_eq_true_of_le h2]; rfl
  | p, x :: t, l, h, h1, h2 => by
    rw [lvlF] at h
    rw [List.cons_append, lvlF]
    cases h3 : Nat.ble 1 x with
    | false => rw [h3] at h; cases h
    | true =>
      cases h4 : Nat.ble x (p + 1) with
      | false => rw [h3, h4] at h; cases h
      | true =>
        rw [h3, h4] at h
        exact lvlF_add h h1 (by simpa using h2)
theorem lvl_add {t : List Nat} {l : Nat} (h : lvl t = true) (h1 : 1 ≤ l) (h2 : l ≤ t.getD (t.length - 1) 0 + 1) : lvl (t ++ [l]) = true := by
  obtain ⟨c, rfl, hc⟩ := lvl_cons h
  rw [List.cons_append, lvl]
  exact lvlF_add hc h1 (by simpa using h2)

theorem own_pushed {w : World} {B : Nat} {v : Value} {t : List Nat} {l : Nat} {z : Int} (h : ∀ y ∈ up t, In64 y) (hz : In64 z) (ho : Own w B tI v (ints (up t) ++ [.int .i64 z])) (e : up [l] = [z]) : OwnInts w B tI v (up (t ++ [l])) := by
  rw [up_append, e]
  refine ⟨by simpa [ints] using ho, fun y hy => ?_⟩
  rcases List.mem_append.1 hy with hy | hy
  · exact h y hy
  · simp at hy; subst hy; exact hz

set_option maxHeartbeats 8000000 in
theorem s_l03Grow : ∀ (f : Nat) (w : World) (v vo : Value) (t : List Nat) (n B Bt : Nat) (dn : List (List Nat)), OwnInts w Bt tI v (up t) → LA w B vo (dn.map up) → lvl t = true → t.length ≤ n → n ≤ 8 → n - t.length ≤ f → B ≤ w.heap.size → dn.length + (growF f t n).length ≤ 1000 →
    Calls Tryz.prog 180 #[v, .int .i64 n, vo] w fun e w' => ∃ x, e = .returned x ∧ LA w' B x ((dn ++ growF f t n).map up) ∧ Grow w w' vo x := by
  intro f
  induction f with
  | zero =>
    intro w v vo t n B Bt dn ht ho hlv htn hn8 hf hB hsz
    have hl : t.length = n := by omega
    have h := s_growLeaf w v vo t n B Bt dn ht ho hlv hl hn8 hB (by omega)
    have e : growF 0 t n = bif isCanG t then [t] else [] := by rw [growF, hl, Nat.beq_refl]; rfl
    rw [e]; exact h
  | succ f ih =>
    intro w v vo t n B Bt dn ht ho hlv htn hn8 hf hB hsz
    by_cases hl : t.length = n
    · have h := s_growLeaf w v vo t n B Bt dn ht ho hlv hl hn8 hB (by omega)
      have e : growF (f + 1) t n = bif isCanG t then [t] else [] := by rw [growF, hl, Nat.beq_refl]; rfl
      rw [e]; exact h
    · have IH := Lib.hid ih
      have hbeq : Nat.beq t.length n = false := by
        cases h : Nat.beq t.length n with
        | true => exact absurd (Nat.eq_of_beq_eq_true h) hl
        | false => rfl
      have hg : growF (f + 1) t n = (downF (t.getD (t.length - 1) 0 + 1)).flatMap fun l => growF f (t ++ [l]) n := by rw [growF, hbeq]; rfl
      rw [hg] at hsz ⊢
      have HSZ := Lib.hid (show (dn ++ (downF (t.getD (t.length - 1) 0 + 1)).flatMap fun l => growF f (t ++ [l]) n).length ≤ 1000 from by rw [List.length_append]; exact hsz)
      have hpos : 0 < t.length := by obtain ⟨c, rfl, -⟩ := lvl_cons hlv; simp
      have HLV := Lib.hid hlv
      have HT := Lib.hid ht
      have HO := Lib.hid ho
      obtain ⟨A, c, rfl, l1, l2, h3⟩ := ht.ints.open_
      rw [up_len] at l1 h3 HT ⊢
      obtain ⟨vs0, hown0, -, -⟩ := ho
      have HB0 := Lib.hid hown0.bt
      obtain ⟨ad, z, rfl, hz, -, hcz⟩ := h3 (t.length - 1) (by omega)
      obtain ⟨L, hL, rfl⟩ := up_getD hz
      have hgL : t.getD (t.length - 1) 0 = L := by simp [List.getD, hL]
      have hL8 : L ≤ 1000000 := by
        have hh := lev8 (p := fun t => t.all fun l => Nat.ble l 8) (by decide +kernel) hlv (by omega)
        rw [List.all_eq_true] at hh
        have := Nat.le_of_ble_eq_true (hh L (List.mem_of_getElem? hL))
        omega
      rw [hgL] at HSZ ⊢
      have HGL := Lib.hid hgL
      have hd : ((t.length : Int) == (n : Int)) = false := by simp; omega
      have hw1 : IntKind.i64.wrap ((t.length : Int) - 1) = ((t.length - 1 : Nat) : Int) := by rw [IntWalk.i64_in _ (by omega)]; omega
      have hwL : IntKind.i64.wrap ((L : Int) + 1) = (L : Int) + 1 := IntWalk.i64_in _ (by omega)
      have hti : ((t.length - 1 : Nat) : Int) < (t.length : Int) := by omega
      have ht0 : (0 : Int) ≤ ((t.length - 1 : Nat) : Int) := by omega
      have htn2 : t.length + 1 ≤ n := by omega
      have hf2 : n - (t.length + 1) ≤ f := by omega
      clear ht h3 hz hL hgL hlv ih hl hbeq hg hsz hf htn hown0
      go_enter Tryz.func180, Tryz.ntmps180
      go_wp2_with fail
      go_loopw [2, 7] (fun ov x wr => ∃ (l : Nat) (dd : List (List Nat)), l ≤ L + 1 ∧ x = .int .i64 l ∧ LA wr B ov (dd.map up) ∧ Hid (dd ++ (downF l).flatMap (fun l => growF f (t ++ [l]) n) = dn ++ (downF (L + 1)).flatMap (fun l => growF f (t ++ [l]) n)) ∧ Grow w wr vo ov) (fun _ x _ => (intOf x).toNat)
      case atStart => exact ⟨L + 1, dn, Nat.le_refl _, by go_num, HO.out, rfl, Grow.refl _ _⟩
      case round =>
        obtain ⟨l, dd, hl, rfl, hla, HEQ, hgr⟩ := hrel
        clear HO
        have HO := Lib.hid hla
        have HG := Lib.hid hgr
        have HTR := Lib.hid (HT.out.kept hgr.1 (HT.out.1.bt.ne HB0.out (by decide)))
        have hws := hgr.1.size
        obtain ⟨vs1, hown1, -, -⟩ := hla
        have HBT := Lib.hid hown1.bt
        clear hgr hown1
        cases l with
        | zero =>
          have HE := Lib.hid (show dd = dn ++ (downF (L + 1)).flatMap (fun l => growF f (t ++ [l]) n) from by have h := HEQ.out; rw [downF] at h; simpa using h)
          go_wp2_with fail
          go_ret
          refine ⟨_, rfl, ?_, HG.out⟩
          rw [← HE.out]; exact HO.out
        | succ l =>
          have hq := HEQ.out
          rw [downF, List.flatMap_cons, ← List.append_assoc] at hq
          have HQ := Lib.hid hq
          have HSZ2 := Lib.hid (show dd.length + (growF f (t ++ [l + 1]) n).length ≤ 1000 from by
            have h1 := HSZ.out
            rw [← hq] at h1
            simp only [List.length_append] at h1
            omega)
          have HLV2 := Lib.hid (lvl_add HLV.out (show 1 ≤ l + 1 by omega) (by rw [HGL.out]; omega))
          have hl1 : (1 : Int) ≤ ((l + 1 : Nat) : Int) := by omega
          have hl64 : In64 ((l + 1 : Nat) : Int) := by unfold In64; omega
          have hwl : IntKind.i64.wrap (((l + 1 : Nat) : Int) - 1) = (l : Int) := by rw [IntWalk.i64_in _ (by omega)]; omega
          have hcl : ∃ z : Int, z = ((l + 1 : Nat) : Int) := ⟨_, rfl⟩
          obtain ⟨z, hz⟩ := hcl
          rw [← hz] at hl1 hl64 hwl ⊢
          have HZ := Lib.hid hz
          have HUZ := Lib.hid (show up [l + 1] = [z] from by rw [hz]; rfl)
          clear hq hz HEQ
          go_wp2_with (first
            | (go_at_call 150; refine (s_l01OwnT _ _ (up t) HTR.out.ints (by rw [up_len]; omega)).mono ?_; rintro e w3 ⟨x3, rfl, ho3, hb3⟩; have HO3 := Lib.hid ho3; have HB3 := Lib.hid hb3; clear hb3 ho3)
            | (at_builtin; refine wpList_app1 T_int HO3.out.1 (by rw [ints_len, up_len]; omega) HB3.out.size (by rfl) rfl (by rfl) (by rfl) (by rfl) ?_; intro v5 w5 hown5 hgr5; have HN5 := Lib.hid (own_pushed HO3.out.2 hl64 hown5 HUZ.out); have HB5 := Lib.hid (hgr5.below HB3.out HB3.out.size HO3.out.1.ge); clear hown5 hgr5)
            | (go_at_call 180; refine (IH.out _ _ _ (t ++ [l + 1]) n B wr.heap.size dd HN5.out (HO.out.below HB5.out) HLV2.out (by simp; omega) hn8 (by simp; omega) (Nat.le_trans hB (Nat.le_trans hws HB5.out.size)) HSZ2.out).mono ?_; rintro e w6 ⟨x6, rfl, hl6, hg6⟩; have HL6 := Lib.hid hl6; have HG6 := Lib.hid (HG.out.trans (Grow.pre HB5.out hg6)); clear hl6 hg6))
          go_roundw
          case rel => exact ⟨l, dd ++ growF f (t ++ [l + 1]) n, by omega, rfl, HL6.out, HQ.out, HG6.out⟩
          case measure => have h := HZ.out; simp [intOf]; omega

theorem s_l03Trees (w : World) (n : Nat) (h1 : 1 ≤ n) (h8 : n ≤ 8) :
    Calls Tryz.prog 148 #[.int .i64 n] w fun e w' => ∃ x, e = .returned x ∧ LA w' w.heap.size x ((treesN n).map up) ∧ Below w.heap.size w w' := by
  have HT := Lib.hid (grow_trees h1 h8)
  have HLE := Lib.hid (treesN_at h1 h8).1
  have OL := Lib.hid (show OwnInts (w.alloc (.cells #[.int .i64 0] tI)) w.heap.size tI (.slice (some ⟨w.heap.size, 0, none⟩) 1 1) (up [0]) from ⟨own_lit w tI [.int .i64 0] (by simp [maxLen]), fun z hz => by simp [up] at hz; subst hz; unfold In64; omega⟩)
  have HSZ := Lib.hid (show ([] : List (List Nat)).length + (growF 8 [0] n).length ≤ 1000 from by rw [HT.out]; have := HLE.out; simp; omega)
  go_enter Tryz.func148, Tryz.ntmps148
  go_wp2_with (go_at_call 180; refine (s_l03Grow 8 _ _ _ [0] n w.heap.size w.heap.size [] OL.out (LA.nil _ _) rfl (by simpa using h1) h8 (by simp; omega) (by simp) HSZ.out).mono ?_; rintro e w6 ⟨x6, rfl, hl6, hg6⟩; have HL6 := Lib.hid hl6; have HG6 := Lib.hid hg6; clear hl6 hg6)
  go_ret
  refine ⟨_, rfl, ?_, HG6.out.below (below1 w _) (below1 w _).size (fun b hb => by simp [Value.ownBlock] at hb)⟩
  have h := HL6.out
  rw [List.nil_append, HT.out] at h
  exact h
end Go.Proofs.YtngdpoeondnchaaGreat

set_option maxRecDepth 100000
set_option linter.unusedVariables false
set_option linter.unusedSimpArgs false
namespace Go.Proofs.YtngdpoeondnchaaGreat
open Go.RowKit

end Go.Proofs.YtngdpoeondnchaaGreat

set_option maxRecDepth 100000
set_option linter.unusedVariables false
set_option linter.unusedSimpArgs false
namespace Go.Proofs.YtngdpoeondnchaaGreat
open Go.RowKit

/-- the list that is grafted -/
def graL (u : List Nat) (node : Nat) (v : List Nat) : List Nat := u.take (endN u node) ++ (v.map fun x => u.getD node 0 + 1 + x) ++ u.drop (endN u node)
theorem w64_in' (n : Int) (h : -9223372036854775808 ≤ n ∧ n ≤ 9223372036854775807) : wrap64 n = n := by unfold wrap64; omega

end Go.Proofs.YtngdpoeondnchaaGreat

