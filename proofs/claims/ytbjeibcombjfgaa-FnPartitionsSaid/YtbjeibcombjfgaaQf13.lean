/- Plain: all trees with n nodes, from a canonical list to the next smaller one. | Walks: equality of lists and of lists of lists, of the library and of the reference. | Walks: l03Grow, l03Trees of the reference. | Walks: l04End, l04Graft of the reference. | Walk: l04Graft of the reference. -/
import Derived.Test.YtbjeibcombjfgaaQf10
import Derived.Test.YtbjeibcombjfgaaQf2
import Derived.Test.YtbjeibcombjfgaaQf11
set_option linter.unusedVariables false
set_option linter.unusedSimpArgs false
set_option maxRecDepth 100000
namespace Go.Proofs.Ytbjeibcombjfgaa

/-- one more than the last place below k with a level of more than 1; 0 if there is none -/
def pN (t : List Nat) : Nat → Nat
  | 0 => 0
  | k + 1 => bif Nat.ble (t.getD k 0) 1 then pN t k else k + 1
def fillF (t : List Nat) (d : Nat) : Nat → Nat → List Nat
  | 0, _ => t
  | m + 1, i => fillF (t.set i (t.getD (i - d) 0)) d m (i + 1)
/-- the next smaller list -/
def succT (t : List Nat) : Option (List Nat) := match pN t t.length with
  | 0 => none
  | p + 1 => some (fillF t (p - (parN t (t.getD p 0) p - 1)) (t.length - p) p)
def treesF : Nat → List Nat → List (List Nat)
  | 0, _ => []
  | f + 1, t => t :: match succT t with
    | none => []
    | some t' => treesF f t'
/-- all trees with n nodes, in order -/
def treesN (n : Nat) : List (List Nat) := treesF 200 (List.range n)

def okT (n : Nat) : Bool := Nat.ble (treesN n).length 115 && (treesN n).all fun t => Nat.beq t.length n && (lvl t && (match canO 9 t with | none => false | some r => eqN r t) &&
  match pN t t.length with
    | 0 => true
    | p + 1 => Nat.blt 0 (parN t (t.getD p 0) p))
theorem okT_8 : (List.range 8).all (fun n => okT (n + 1)) = true := by decide +kernel
theorem treesN_at {n : Nat} (h1 : 1 ≤ n) (h8 : n ≤ 8) : (treesN n).length ≤ 115 ∧ ∀ t ∈ treesN n, t.length = n ∧ lvl t = true ∧ canO 9 t = some t ∧ ∀ p, pN t t.length = p + 1 → 0 < parN t (t.getD p 0) p := by
  have h := okT_8
  rw [List.all_eq_true] at h
  have h2 := h (n - 1) (List.mem_range.2 (by omega))
  rw [show n - 1 + 1 = n by omega, okT] at h2
  simp only [Bool.and_eq_true, List.all_eq_true] at h2
  refine ⟨Nat.le_of_ble_eq_true h2.1, fun t ht => ?_⟩
  obtain ⟨a, ⟨b, c⟩, d⟩ := h2.2 t ht
  refine ⟨Nat.eq_of_beq_eq_true a, b, ?_, fun p hp => ?_⟩
  · cases hc : canO 9 t with
    | none => rw [hc] at c; cases c
    | some r => rw [hc] at c; rw [eqN_iff.1 c]
  · rw [hp] at d
    simpa using d
end Go.Proofs.Ytbjeibcombjfgaa

set_option maxRecDepth 100000
set_option linter.unusedVariables false
set_option linter.unusedSimpArgs false
namespace Go.Proofs.Ytbjeibcombjfgaa
open Go.RowKit

set_option maxHeartbeats 400000 in
theorem s_l01Same (w : World) (a b : Value) (xs ys : List Int) (ha : Ints w a xs) (hb : Ints w b ys) :
    Calls Try.prog 86 #[a, b] w fun e w' => e = .returned (.bool (decide (xs = ys))) ∧ ∃ n, w' = w.drewN n := by
  obtain ⟨A, c, rfl, h1, h2, h3⟩ := ha.open_
  obtain ⟨B, d, rfl, g1, g2, g3⟩ := hb.open_
  clear ha hb
  have H3 := Lib.hid h3
  have G3 := Lib.hid g3
  clear h3 g3
  by_cases hl : xs.length = ys.length
  · have hl' : (((xs.length : Nat) : Int) != ((ys.length : Nat) : Int)) = false := by simp [hl]
    have HL := Lib.hid hl
    clear hl
    have g4 : ys.length ≤ xs.length := by rw [HL.out]; omega
    have g5 : xs.length ≤ ys.length := by rw [HL.out]; omega
    go_enter Try.func86, Try.ntmps86
    go_wp2
    go_loopw [5] (fun i wr => ∃ k n : Nat, k ≤ xs.length ∧ i = .int .i64 k ∧ xs.take k = ys.take k ∧ wr = w.drewN n) (fun i _ => xs.length - (intOf i).toNat)
    case atStart => exact ⟨0, 0, Nat.zero_le _, rfl, rfl, rfl⟩
    case round =>
      obtain ⟨k, n, hk, rfl, ht, rfl⟩ := hrel
      have HT := Lib.hid ht
      clear ht
      by_cases hlt : k < xs.length
      · obtain ⟨ad, z, rfl, hz, hz2, hc⟩ := H3.out k hlt
        obtain ⟨ad', y, rfl, hy, hy2, hc'⟩ := G3.out k (by omega)
        have HZ := Lib.hid hz
        have HY := Lib.hid hy
        clear hz hy hz2 hy2
        go_wp2
        go_quiet (fail)
        go_wp2
        · have hne : (z != y) = true := by assumption
          go_ret
          refine ⟨ret_bool ?_, _, World.drewN_drewN _ _ _⟩
          symm
          simp only [decide_eq_false_iff_not]
          rintro rfl
          have := HZ.out.symm.trans HY.out
          simp at this hne
          exact hne this
        · have hne : (z != y) = false := by assumption
          go_roundw
          case rel => exact ⟨k + 1, _, by omega, by go_num, take_eq_succ HT.out HZ.out HY.out (by simpa using hne), rfl⟩
          case measure => simp [intOf]; omega
      · have : k = xs.length := by omega
        subst this
        go_wp2
        go_ret
        refine ⟨ret_bool ?_, _, rfl⟩
        have e := HT.out
        rw [List.take_length, List.take_of_length_le (by omega)] at e
        simp [e]
  · have hl' : (((xs.length : Nat) : Int) != ((ys.length : Nat) : Int)) = true := by simp; omega
    have HL := Lib.hid hl
    clear hl
    go_enter Try.func86, Try.ntmps86
    go_wp2
    go_ret
    refine ⟨ret_bool ?_, 0, rfl⟩
    have := HL.out
    symm
    simp only [decide_eq_false_iff_not]
    rintro rfl
    exact this rfl

set_option maxHeartbeats 400000 in
theorem lib_Equal (w : World) (a b : Value) (xs ys : List Int) (ha : Ints w a xs) (hb : Ints w b ys) :
    Calls Try.prog 140 #[a, b] w fun e w' => e = .returned (.bool (decide (xs = ys))) ∧ ∃ n, w' = w.drewN n := by
  obtain ⟨A, c, rfl, h1, h2, h3⟩ := ha.open_
  obtain ⟨B, d, rfl, g1, g2, g3⟩ := hb.open_
  clear ha hb
  have H3 := Lib.hid h3
  have G3 := Lib.hid g3
  clear h3 g3
  by_cases hl : xs.length = ys.length
  · have hl' : (((xs.length : Nat) : Int) != ((ys.length : Nat) : Int)) = false := by simp [hl]
    have HL := Lib.hid hl
    clear hl
    have g4 : ys.length ≤ xs.length := by rw [HL.out]; omega
    have g5 : xs.length ≤ ys.length := by rw [HL.out]; omega
    go_enter Try.func140, Try.ntmps140
    go_wp2
    go_loopw [13] (fun i wr => ∃ k n : Nat, k ≤ xs.length ∧ i = .int .i64 k ∧ xs.take k = ys.take k ∧ wr = w.drewN n) (fun i _ => xs.length - (intOf i).toNat)
    case atStart => exact ⟨0, 0, Nat.zero_le _, rfl, rfl, rfl⟩
    case round =>
      obtain ⟨k, n, hk, rfl, ht, rfl⟩ := hrel
      have HT := Lib.hid ht
      clear ht
      by_cases hlt : k < xs.length
      · obtain ⟨ad, z, rfl, hz, hz2, hc⟩ := H3.out k hlt
        obtain ⟨ad', y, rfl, hy, hy2, hc'⟩ := G3.out k (by omega)
        have HZ := Lib.hid hz
        have HY := Lib.hid hy
        clear hz hy hz2 hy2
        go_wp2
        go_quiet (fail)
        go_wp2
        · have hne : (z != y) = true := by assumption
          go_ret
          refine ⟨ret_bool ?_, _, World.drewN_drewN _ _ _⟩
          symm
          simp only [decide_eq_false_iff_not]
          rintro rfl
          have := HZ.out.symm.trans HY.out
          simp at this hne
          exact hne this
        · have hne : (z != y) = false := by assumption
          go_roundw
          case rel => exact ⟨k + 1, _, by omega, by go_num, take_eq_succ HT.out HZ.out HY.out (by simpa using hne), rfl⟩
          case measure => simp [intOf]; omega
      · have : k = xs.length := by omega
        subst this
        go_wp2
        go_ret
        refine ⟨ret_bool ?_, _, rfl⟩
        have e := HT.out
        rw [List.take_length, List.take_of_length_le (by omega)] at e
        simp [e]
  · have hl' : (((xs.length : Nat) : Int) != ((ys.length : Nat) : Int)) = true := by simp; omega
    have HL := Lib.hid hl
    clear hl
    go_enter Try.func140, Try.ntmps140
    go_wp2
    go_ret
    refine ⟨ret_bool ?_, 0, rfl⟩
    have := HL.out
    symm
    simp only [decide_eq_false_iff_not]
    rintro rfl
    exact this rfl

end Go.Proofs.Ytbjeibcombjfgaa

set_option maxRecDepth 100000
set_option linter.unusedVariables false
set_option linter.unusedSimpArgs false
namespace Go.Proofs.Ytbjeibcombjfgaa
open Go.RowKit

def downF : Nat → List Nat
  | 0 => []
  | l + 1 => (l + 1) :: downF l
def isCanG (t : List Nat) : Bool := match canO 9 t with | none => false | some r => eqN r t
/-- the canonical lists with n levels that begin with a list -/
def growF : Nat → List Nat → Nat → List (List Nat)
  | 0, t, n => bif Nat.beq t.length n then (bif isCanG t then [t] else []) else []
  | f + 1, t, n => bif Nat.beq t.length n then (bif isCanG t then [t] else []) else (downF (t.getD (t.length - 1) 0 + 1)).flatMap fun l => growF f (t ++ [l]) n
def eqLL : List (List Nat) → List (List Nat) → Bool
  | [], [] => true
  | a :: xs, b :: ys => eqN a b && eqLL xs ys
  | _, _ => false
theorem eqLL_eq : ∀ {a b : List (List Nat)}, eqLL a b = true → a = b
  | [], [], _ => rfl
  | [], _ :: _, h => by cases h
  | _ :: _, [], h => by cases h
  | a :: xs, b :: ys, h => by
    rw [eqLL, Bool.and_eq_true] at h
    rw [eqN_iff.1 h.1, eqLL_eq h.2]
theorem grow_trees8 : (List.range 8).all (fun n => eqLL (growF 8 [0] (n + 1)) (treesN (n + 1))) = true := by decide +kernel
theorem grow_trees {n : Nat} (h1 : 1 ≤ n) (h8 : n ≤ 8) : growF 8 [0] n = treesN n := by
  have h := grow_trees8
  rw [List.all_eq_true] at h
  have h2 := h (n - 1) (List.mem_range.2 (by omega))
  rw [show n - 1 + 1 = n by omega] at h2
  exact eqLL_eq h2

theorem Grow.refl (w : World) (v : Value) : Grow w w v v := ⟨World.grownBy.refl _ _, .inl rfl⟩
theorem Grow.of_below {w w' : World} {v : Value} (h : Below w.heap.size w w') : w.grownBy w' v.ownBlock := ⟨h.os, h.tape, h.output, h.size, fun k hk _ => h.block k hk⟩
theorem Grow.trans {w w1 w2 : World} {v v1 v2 : Value} (h : Grow w w1 v v1) (h' : Grow w1 w2 v1 v2) : Grow w w2 v v2 := by
  refine ⟨⟨h'.1.os.trans h.1.os, h'.1.tape.trans h.1.tape, h'.1.output.trans h.1.output, Nat.le_trans h.1.size h'.1.size, fun k hk hne => ?_⟩, ?_⟩
  · refine (h'.1.block k (Nat.lt_of_lt_of_le hk h.1.size) ?_).trans (h.1.block k hk hne)
    rcases h.2 with h2 | ⟨g, h2, h3⟩
    · rw [h2]; exact hne
    · rw [h2]; intro e; injection e with e; omega
  · rcases h'.2 with h3 | ⟨g, h3, h4⟩
    · rw [h3]; exact h.2
    · exact .inr ⟨g, h3, Nat.le_trans h.1.size h4⟩
theorem Grow.pre {w w1 w2 : World} {v v2 : Value} (hb : Below w.heap.size w w1) (h : Grow w1 w2 v v2) : Grow w w2 v v2 := Grow.trans ⟨Grow.of_below hb, .inl rfl⟩ h

set_option maxHeartbeats 4000000 in
theorem s_growLeaf (w : World) (v vo : Value) (t : List Nat) (n B Bt : Nat) (dn : List (List Nat)) (ht : OwnInts w Bt tI v (up t)) (ho : LA w B vo (dn.map up)) (hlv : lvl t = true) (htn : t.length = n) (hn8 : n ≤ 8) (hB : B ≤ w.heap.size) (hsz : dn.length ≤ 1000) :
    Calls Try.prog 141 #[v, .int .i64 n, vo] w fun e w' => ∃ x, e = .returned x ∧ LA w' B x ((dn ++ (bif isCanG t then [t] else [])).map up) ∧ Grow w w' vo x := by
  obtain ⟨r, hr, -, -⟩ := canO_8 hlv (by omega)
  have HR := Lib.hid hr
  have hcg : isCanG t = decide (up r = up t) := by
    unfold isCanG
    rw [hr]
    simp only
    by_cases e : r = t
    · rw [eqN_iff.2 e, e]; exact (decide_eq_true rfl).symm
    · have h1 : eqN r t = false := by
        cases hh : eqN r t with
        | true => exact absurd (eqN_iff.1 hh) e
        | false => rfl
      rw [h1]; exact (decide_eq_false fun h => e (up_inj h)).symm
  have HLL := Lib.hid (show ∀ l ∈ t, l ≤ 1000000 from fun l hl => by
    have hh := lev8 (p := fun t => t.all fun l => Nat.ble l 8) (by decide +kernel) hlv (by omega)
    rw [List.all_eq_true] at hh
    have := Nat.le_of_ble_eq_true (hh l hl)
    omega)
  obtain ⟨A, c, rfl, l1, l2, -⟩ := ht.ints.open_
  rw [up_len] at l1 ht ⊢
  have HT := Lib.hid ht
  obtain ⟨vs, hown, hrr, hap⟩ := ho
  have hvl : vs.length = dn.length := by rw [hrr.1, List.length_map]
  obtain ⟨Ao, co, rfl, -, -⟩ := hown.cells.open_
  rw [hvl] at hown ⊢
  have HO := Lib.hid hown
  have HRR := Lib.hid hrr
  have HAP := Lib.hid hap
  have hd : ((t.length : Int) == (n : Int)) = true := by simp [htn]
  have hvs : vs.length ≤ 1000 := by omega
  have ht8 : t.length ≤ 8 := by omega
  clear ht hown hrr hap hvl htn hr
  cases hb : decide (up r = up t) with
  | true =>
    have HCG := Lib.hid (show dn ++ (bif isCanG t then [t] else []) = dn ++ [t] from by rw [hcg, hb]; rfl)
    rw [HCG.out]
    have HBB := Lib.hid hb
    clear hcg hb
    go_enter Try.func141, Try.ntmps141
    go_wp2_with (first
      | (go_at_call 95; refine (s_l03Canon 9 _ _ t r HT.out.ints HR.out (by omega) HLL.out).mono ?_; rintro e w1 ⟨x1, rfl, ho1, hb1⟩; have HO1 := Lib.hid ho1; have HB1 := Lib.hid hb1; clear ho1 hb1)
      | (go_at_call 86; refine (s_l01Same _ _ _ (up r) (up t) HO1.out.ints (HT.out.ints.below HB1.out)).mono ?_; rintro e w2 ⟨rfl, n2, rfl⟩; rw [HBB.out])
      | (go_at_call 125; refine (s_l01OwnT _ _ (up t) ((HT.out.ints.below HB1.out).drewN n2) (by rw [up_len]; omega)).mono ?_; rintro e w3 ⟨x3, rfl, ho3, hb3⟩; obtain ⟨A5, c5, he5, -, -, -⟩ := ho3.ints.open_; rw [up_len] at he5; subst he5; have HO3 := Lib.hid ho3; have HB3 := Lib.hid (show Below w.heap.size w w3 from (below_drewN HB1.out n2).trans (hb3.mono HB1.out.size)); clear hb3 ho3)
      | (at_builtin; refine wpList_app1 T_row (HO.out.below HB3.out) (by omega) (Nat.le_trans hB HB3.out.size) (by rfl) rfl (by rfl) (by rfl) (by rfl) ?_; intro v1 w5 hown1 hgr1; have HN1 := Lib.hid hown1; have HGR := Lib.hid hgr1; clear hown1 hgr1))
    go_ret
    refine ⟨_, rfl, ⟨_, HN1.out, ?_, pairApart_snoc HAP.out (HRR.out.fresh (Nat.le_refl _) (fun b hb => Nat.le_trans HB1.out.size (HO3.out.1.ge b hb)))⟩, Grow.pre HB3.out HGR.out⟩
    rw [List.map_append]
    exact LL.snoc (HO.out.below HB3.out) (HRR.out.below HB3.out) (HO3.out.mono (Nat.le_trans hB HB1.out.size)) HN1.out HGR.out.1
  | false =>
    have HCG := Lib.hid (show dn ++ (bif isCanG t then [t] else []) = dn from by rw [hcg, hb]; simp)
    rw [HCG.out]
    have HBB := Lib.hid hb
    clear hcg hb
    go_enter Try.func141, Try.ntmps141
    go_wp2_with (first
      | (go_at_call 95; refine (s_l03Canon 9 _ _ t r HT.out.ints HR.out (by omega) HLL.out).mono ?_; rintro e w1 ⟨x1, rfl, ho1, hb1⟩; have HO1 := Lib.hid ho1; have HB1 := Lib.hid hb1; clear ho1 hb1)
      | (go_at_call 86; refine (s_l01Same _ _ _ (up r) (up t) HO1.out.ints (HT.out.ints.below HB1.out)).mono ?_; rintro e w2 ⟨rfl, n2, rfl⟩; rw [HBB.out]))
    go_ret
    have hb2 := below_drewN HB1.out n2
    exact ⟨_, rfl, ⟨vs, HO.out.below hb2, HRR.out.below hb2, HAP.out⟩, ⟨Grow.of_below hb2, .inl rfl⟩⟩

theorem lvlF_add : ∀ {p : Nat} {t : List Nat} {l : Nat}, lvlF p t = true → 1 ≤ l → l ≤ (p :: t).getD t.length 0 + 1 → lvlF p (t ++ [l]) = true
  | p, [], l, _, h1, h2 => by
    simp at h2
    rw [List.nil_append, lvlF, Nat.ble_eq_true_of_le h1, Nat.ble_eq_true_of_le h2]; rfl
  | p, x :: t, l, h, h1, h2 => by
    rw [lvlF] at h
    rw [List.cons_append, lvlF]
    cases h3 : Nat.ble 1 x with
    | false => rw [h3] at h; cases h
    | true =>
      cases h4 : Nat.ble x (p + 1) with
      | false => rw [h3, h4] at h; cases h
      | true =>
        rw [h3, h4] at h
        exact lvlF_add h h1 (by simpa using h2)
theorem lvl_add {t : List Nat} {l : Nat} (h : lvl t = true) (h1 : 1 ≤ l) (h2 : l ≤ t.getD (t.length - 1) 0 + 1) : lvl (t ++ [l]) = true := by
  obtain ⟨c, rfl, hc⟩ := lvl_cons h
  rw [List.cons_append, lvl]
  exact lvlF_add hc h1 (by simpa using h2)

theorem own_pushed {w : World} {B : Nat} {v : Value} {t : List Nat} {l : Nat} {z : Int} (h : ∀ y ∈ up t, In64 y) (hz : In64 z) (ho : Own w B tI v (ints (up t) ++ [.int .i64 z])) (e : up [l] = [z]) : OwnInts w B tI v (up (t ++ [l])) := by
  rw [up_append, e]
  refine ⟨by simpa [ints] using ho, fun y hy => ?_⟩
  rcases List.mem_append.1 hy with hy | hy
  · exact h y hy
  · simp at hy; subst hy; exact hz

set_option maxHeartbeats 8000000 in
theorem s_l03Grow : ∀ (f : Nat) (w : World) (v vo : Value) (t : List Nat) (n B Bt : Nat) (dn : List (List Nat)), OwnInts w Bt tI v (up t) → LA w B vo (dn.map up) → lvl t = true → t.length ≤ n → n ≤ 8 → n - t.length ≤ f → B ≤ w.heap.size → dn.length + (growF f t n).length ≤ 1000 →
    Calls Try.prog 141 #[v, .int .i64 n, vo] w fun e w' => ∃ x, e = .returned x ∧ LA w' B x ((dn ++ growF f t n).map up) ∧ Grow w w' vo x := by
  intro f
  induction f with
  | zero =>
    intro w v vo t n B Bt dn ht ho hlv htn hn8 hf hB hsz
    have hl : t.length = n := by omega
    have h := s_growLeaf w v vo t n B Bt dn ht ho hlv hl hn8 hB (by omega)
    have e : growF 0 t n = bif isCanG t then [t] else [] := by rw [growF, hl, Nat.beq_refl]; rfl
    rw [e]; exact h
  | succ f ih =>
    intro w v vo t n B Bt dn ht ho hlv htn hn8 hf hB hsz
    by_cases hl : t.length = n
    · have h := s_growLeaf w v vo t n B Bt dn ht ho hlv hl hn8 hB (by omega)
      have e : growF (f + 1) t n = bif isCanG t then [t] else [] := by rw [growF, hl, Nat.beq_refl]; rfl
      rw [e]; exact h
    · have IH := Lib.hid ih
      have hbeq : Nat.beq t.length n = false := by
        cases h : Nat.beq t.length n with
        | true => exact absurd (Nat.eq_of_beq_eq_true h) hl
        | false => rfl
      have hg : growF (f + 1) t n = (downF (t.getD (t.length - 1) 0 + 1)).flatMap fun l => growF f (t ++ [l]) n := by rw [growF, hbeq]; rfl
      rw [hg] at hsz ⊢
      have HSZ := Lib.hid (show (dn ++ (downF (t.getD (t.length - 1) 0 + 1)).flatMap fun l => growF f (t ++ [l]) n).length ≤ 1000 from by rw [List.length_append]; exact hsz)
      have hpos : 0 < t.length := by obtain ⟨c, rfl, -⟩ := lvl_cons hlv; simp
      have HLV := Lib.hid hlv
      have HT := Lib.hid ht
      have HO := Lib.hid ho
      obtain ⟨A, c, rfl, l1, l2, h3⟩ := ht.ints.open_
      rw [up_len] at l1 h3 HT ⊢
      obtain ⟨vs0, hown0, -, -⟩ := ho
      have HB0 := Lib.hid hown0.bt
      obtain ⟨ad, z, rfl, hz, -, hcz⟩ := h3 (t.length - 1) (by omega)
      obtain ⟨L, hL, rfl⟩ := up_getD hz
      have hgL : t.getD (t.length - 1) 0 = L := by simp [List.getD, hL]
      have hL8 : L ≤ 1000000 := by
        have hh := lev8 (p := fun t => t.all fun l => Nat.ble l 8) (by decide +kernel) hlv (by omega)
        rw [List.all_eq_true] at hh
        have := Nat.le_of_ble_eq_true (hh L (List.mem_of_getElem? hL))
        omega
      rw [hgL] at HSZ ⊢
      have HGL := Lib.hid hgL
      have hd : ((t.length : Int) == (n : Int)) = false := by simp; omega
      have hw1 : IntKind.i64.wrap ((t.length : Int) - 1) = ((t.length - 1 : Nat) : Int) := by rw [IntWalk.i64_in _ (by omega)]; omega
      have hwL : IntKind.i64.wrap ((L : Int) + 1) = (L : Int) + 1 := IntWalk.i64_in _ (by omega)
      have hti : ((t.length - 1 : Nat) : Int) < (t.length : Int) := by omega
      have ht0 : (0 : Int) ≤ ((t.length - 1 : Nat) : Int) := by omega
      have htn2 : t.length + 1 ≤ n := by omega
      have hf2 : n - (t.length + 1) ≤ f := by omega
      clear ht h3 hz hL hgL hlv ih hl hbeq hg hsz hf htn hown0
      go_enter Try.func141, Try.ntmps141
      go_wp2_with fail
      go_loopw [2, 7] (fun ov x wr => ∃ (l : Nat) (dd : List (List Nat)), l ≤ L + 1 ∧ x = .int .i64 l ∧ LA wr B ov (dd.map up) ∧ Hid (dd ++ (downF l).flatMap (fun l => growF f (t ++ [l]) n) = dn ++ (downF (L + 1)).flatMap (fun l => growF f (t ++ [l]) n)) ∧ Grow w wr vo ov) (fun _ x _ => (intOf x).toNat)
      case atStart => exact ⟨L + 1, dn, Nat.le_refl _, by go_num, HO.out, rfl, Grow.refl _ _⟩
      case round =>
        obtain ⟨l, dd, hl, rfl, hla, HEQ, hgr⟩ := hrel
        clear HO
        have HO := Lib.hid hla
        have HG := Lib.hid hgr
        have HTR := Lib.hid (HT.out.kept hgr.1 (HT.out.1.bt.ne HB0.out (by decide)))
        have hws := hgr.1.size
        obtain ⟨vs1, hown1, -, -⟩ := hla
        have HBT := Lib.hid hown1.bt
        clear hgr hown1
        cases l with
        | zero =>
          have HE := Lib.hid (show dd = dn ++ (downF (L + 1)).flatMap (fun l => growF f (t ++ [l]) n) from by have h := HEQ.out; rw [downF] at h; simpa using h)
          go_wp2_with fail
          go_ret
          refine ⟨_, rfl, ?_, HG.out⟩
          rw [← HE.out]; exact HO.out
        | succ l =>
          have hq := HEQ.out
          rw [downF, List.flatMap_cons, ← List.append_assoc] at hq
          have HQ := Lib.hid hq
          have HSZ2 := Lib.hid (show dd.length + (growF f (t ++ [l + 1]) n).length ≤ 1000 from by
            have h1 := HSZ.out
            rw [← hq] at h1
            simp only [List.length_append] at h1
            omega)
          have HLV2 := Lib.hid (lvl_add HLV.out (show 1 ≤ l + 1 by omega) (by rw [HGL.out]; omega))
          have hl1 : (1 : Int) ≤ ((l + 1 : Nat) : Int) := by omega
          have hl64 : In64 ((l + 1 : Nat) : Int) := by unfold In64; omega
          have hwl : IntKind.i64.wrap (((l + 1 : Nat) : Int) - 1) = (l : Int) := by rw [IntWalk.i64_in _ (by omega)]; omega
          have hcl : ∃ z : Int, z = ((l + 1 : Nat) : Int) := ⟨_, rfl⟩
          obtain ⟨z, hz⟩ := hcl
          rw [← hz] at hl1 hl64 hwl ⊢
          have HZ := Lib.hid hz
          have HUZ := Lib.hid (show up [l + 1] = [z] from by rw [hz]; rfl)
          clear hq hz HEQ
          go_wp2_with (first
            | (go_at_call 125; refine (s_l01OwnT _ _ (up t) HTR.out.ints (by rw [up_len]; omega)).mono ?_; rintro e w3 ⟨x3, rfl, ho3, hb3⟩; have HO3 := Lib.hid ho3; have HB3 := Lib.hid hb3; clear hb3 ho3)
            | (at_builtin; refine wpList_app1 T_int HO3.out.1 (by rw [ints_len, up_len]; omega) HB3.out.size (by rfl) rfl (by rfl) (by rfl) (by rfl) ?_; intro v5 w5 hown5 hgr5; have HN5 := Lib.hid (own_pushed HO3.out.2 hl64 hown5 HUZ.out); have HB5 := Lib.hid (hgr5.below HB3.out HB3.out.size HO3.out.1.ge); clear hown5 hgr5)
            | (go_at_call 141; refine (IH.out _ _ _ (t ++ [l + 1]) n B wr.heap.size dd HN5.out (HO.out.below HB5.out) HLV2.out (by simp; omega) hn8 (by simp; omega) (Nat.le_trans hB (Nat.le_trans hws HB5.out.size)) HSZ2.out).mono ?_; rintro e w6 ⟨x6, rfl, hl6, hg6⟩; have HL6 := Lib.hid hl6; have HG6 := Lib.hid (HG.out.trans (Grow.pre HB5.out hg6)); clear hl6 hg6))
          go_roundw
          case rel => exact ⟨l, dd ++ growF f (t ++ [l + 1]) n, by omega, rfl, HL6.out, HQ.out, HG6.out⟩
          case measure => have h := HZ.out; simp [intOf]; omega

theorem s_l03Trees (w : World) (n : Nat) (h1 : 1 ≤ n) (h8 : n ≤ 8) :
    Calls Try.prog 85 #[.int .i64 n] w fun e w' => ∃ x, e = .returned x ∧ LA w' w.heap.size x ((treesN n).map up) ∧ Below w.heap.size w w' := by
  have HT := Lib.hid (grow_trees h1 h8)
  have HLE := Lib.hid (treesN_at h1 h8).1
  have OL := Lib.hid (show OwnInts (w.alloc (.cells #[.int .i64 0] tI)) w.heap.size tI (.slice (some ⟨w.heap.size, 0, none⟩) 1 1) (up [0]) from ⟨own_lit w tI [.int .i64 0] (by simp [maxLen]), fun z hz => by simp [up] at hz; subst hz; unfold In64; omega⟩)
  have HSZ := Lib.hid (show ([] : List (List Nat)).length + (growF 8 [0] n).length ≤ 1000 from by rw [HT.out]; have := HLE.out; simp; omega)
  go_enter Try.func85, Try.ntmps85
  go_wp2_with (go_at_call 141; refine (s_l03Grow 8 _ _ _ [0] n w.heap.size w.heap.size [] OL.out (LA.nil _ _) rfl (by simpa using h1) h8 (by simp; omega) (by simp) HSZ.out).mono ?_; rintro e w6 ⟨x6, rfl, hl6, hg6⟩; have HL6 := Lib.hid hl6; have HG6 := Lib.hid hg6; clear hl6 hg6)
  go_ret
  refine ⟨_, rfl, ?_, HG6.out.below (below1 w _) (below1 w _).size (fun b hb => by simp [Value.ownBlock] at hb)⟩
  have h := HL6.out
  rw [List.nil_append, HT.out] at h
  exact h
end Go.Proofs.Ytbjeibcombjfgaa

set_option maxRecDepth 100000
set_option linter.unusedVariables false
set_option linter.unusedSimpArgs false
namespace Go.Proofs.Ytbjeibcombjfgaa
open Go.RowKit

theorem runN_le (a : Nat) : ∀ ls : List Nat, runN a ls ≤ ls.length
  | [] => Nat.le_refl _
  | l :: ls => by rw [runN]; cases Nat.blt a l <;> simp [runN_le a ls]
theorem endN_le {t : List Nat} {node : Nat} (h : node < t.length) : node + 1 ≤ endN t node ∧ endN t node ≤ t.length := by
  unfold endN
  have := runN_le (t.getD node 0) (t.drop (node + 1))
  rw [List.length_drop] at this
  omega

set_option maxHeartbeats 4000000 in
theorem s_l04End (w : World) (v : Value) (t : List Nat) (node : Nat) (ha : Ints w v (up t)) (hn : node < t.length) (h8 : t.length ≤ 1000) :
    Calls Try.prog 199 #[v, .int .i64 node] w fun e w' => e = .returned (.int .i64 (endN t node : Nat)) ∧ ∃ n, w' = w.drewN n := by
  obtain ⟨A, c, rfl, l1, l2, h3⟩ := ha.open_
  rw [up_len] at l1 h3 ⊢
  obtain ⟨ad, z, rfl, hz, -, hcz⟩ := h3 node hn
  obtain ⟨a, hl, rfl⟩ := up_getD hz
  have H3 := Lib.hid h3
  have HE := Lib.hid (show endN t node = node + 1 + runN a (t.drop (node + 1)) from by unfold endN; simp [List.getD, hl])
  rw [HE.out]
  have hw1 : IntKind.i64.wrap ((node : Int) + 1) = (node : Int) + 1 := IntWalk.i64_in _ (by omega)
  have hni : (node : Int) < (t.length : Int) := by omega
  have hn0 : (0 : Int) ≤ (node : Int) := by omega
  have HV := Lib.hid (rfl : node + 1 + runN a (t.drop (node + 1)) = node + 1 + runN a (t.drop (node + 1)))
  generalize hR : node + 1 + runN a (t.drop (node + 1)) = R
  have HR := Lib.hid hR
  clear hz hl h3 hR
  go_enter Try.func199, Try.ntmps199
  go_wp2_with fail
  go_loopw [5] (fun x wr => ∃ e nd : Nat, e ≤ t.length ∧ x = .int .i64 e ∧ Hid (e + runN a (t.drop e) = R) ∧ wr = w.drewN nd) (fun x _ => t.length - (intOf x).toNat)
  case atStart => exact ⟨node + 1, 0, hn, by go_num, HR.out, rfl⟩
  case round =>
    obtain ⟨e, nd, he, rfl, HQ, rfl⟩ := hrel
    by_cases hlt : e < t.length
    · obtain ⟨ad', z, hae, hz, -, hce⟩ := H3.out e hlt
      injection hae with hae
      subst hae
      obtain ⟨b, hb, rfl⟩ := up_getD hz
      have hei : (e : Int) < (t.length : Int) := by omega
      have hed : decide ((e : Int) < (t.length : Int)) = true := by simp; omega
      have he0 : (0 : Int) ≤ (e : Int) := by omega
      have hq := HQ.out
      have hbt : t[e]'hlt = b := by rw [List.getElem?_eq_getElem hlt] at hb; injection hb
      rw [List.drop_eq_getElem_cons hlt, hbt, runN] at hq
      clear hz hb hbt HQ
      by_cases hab : a < b
      · have hd1 : decide ((a : Int) < (b : Int)) = true := by simp; omega
        have hd2 : (a : Int) < (b : Int) := by omega
        have hblt : Nat.blt a b = true := (blt_iff _ _).2 hab
        rw [hblt] at hq
        have HQ2 := Lib.hid (show e + 1 + runN a (t.drop (e + 1)) = R from by simp only [cond_true] at hq; omega)
        clear hq hab hblt
        go_wp2_with fail
        go_quiet (fail)
        go_wp2_with fail
        go_roundw
        case rel => exact ⟨e + 1, _, by omega, by go_num, HQ2.out, by first | rfl | exact World.drewN_drewN ..⟩
        case measure => simp [intOf]; omega
      · have hd1 : decide ((a : Int) < (b : Int)) = false := by simp; omega
        have hd2 : ¬ ((a : Int) < (b : Int)) := by omega
        have hblt : Nat.blt a b = false := by
          cases h : Nat.blt a b with
          | true => exact absurd ((blt_iff _ _).1 h) hab
          | false => rfl
        rw [hblt] at hq
        have HQ2 := Lib.hid (show e = R from by simp only [cond_false] at hq; omega)
        clear hq hab hblt
        go_wp2_with fail
        go_quiet (fail)
        go_wp2_with fail
        go_ret
        exact ⟨ret_int (by rw [HQ2.out]), _, World.drewN_drewN ..⟩
    · have hee : e = t.length := by omega
      have hq := HQ.out
      rw [List.drop_eq_nil_of_le (by omega), runN] at hq
      have HQ2 := Lib.hid (show e = R from by omega)
      have hei : ¬ ((e : Int) < (t.length : Int)) := by omega
      have hed : decide ((e : Int) < (t.length : Int)) = false := by simp; omega
      have hed2 : ¬ (e < t.length) := by omega
      have hed3 : decide (e < t.length) = false := by simp; omega
      clear hq hee HQ
      go_wp2_with fail
      go_quiet (fail)
      go_wp2_with fail
      go_ret
      exact ⟨ret_int (by rw [HQ2.out]), _, World.drewN_drewN ..⟩
end Go.Proofs.Ytbjeibcombjfgaa

set_option maxRecDepth 100000
set_option linter.unusedVariables false
set_option linter.unusedSimpArgs false
namespace Go.Proofs.Ytbjeibcombjfgaa
open Go.RowKit

/-- the list that is grafted -/
def graL (u : List Nat) (node : Nat) (v : List Nat) : List Nat := u.take (endN u node) ++ (v.map fun x => u.getD node 0 + 1 + x) ++ u.drop (endN u node)
theorem w64_in' (n : Int) (h : -9223372036854775808 ≤ n ∧ n ≤ 9223372036854775807) : wrap64 n = n := by unfold wrap64; omega

set_option maxHeartbeats 8000000 in
theorem s_l04Graft (w : World) (vu vv : Value) (u v r : List Nat) (node : Nat) (hu : Ints w vu (up u)) (hv : Ints w vv (up v)) (hn : node < u.length) (hu8 : u.length ≤ 100) (hv8 : v.length ≤ 100) (hul : ∀ l ∈ u, l ≤ 1000) (hvl : ∀ l ∈ v, l ≤ 1000) (hr : canO 9 (graL u node v) = some r) :
    Calls Try.prog 200 #[vu, .int .i64 node, vv] w fun e w' => ∃ x, e = .returned x ∧ OwnInts w' w.heap.size tI x (up r) ∧ Below w.heap.size w w' := by
  obtain ⟨he1, he2⟩ := endN_le hn
  have HU := Lib.hid hu
  have HV := Lib.hid hv
  have HR := Lib.hid hr
  obtain ⟨A, c, rfl, l1, l2, h3⟩ := hu.open_
  obtain ⟨A2, c2, rfl, m1, m2, g3⟩ := hv.open_
  rw [up_len] at l1 h3 HU ⊢
  rw [up_len] at m1 g3 HV ⊢
  obtain ⟨ad, z, rfl, hz, -, hcz⟩ := h3 node hn
  obtain ⟨a, hla, rfl⟩ := up_getD hz
  have hga : u.getD node 0 = a := by simp [List.getD, hla]
  have ha1 := hul a (List.mem_of_getElem? hla)
  have HGL := Lib.hid (show graL u node v = u.take (endN u node) ++ (v.map fun x => a + 1 + x) ++ u.drop (endN u node) from by unfold graL; rw [hga])
  obtain ⟨X1, hx1, hi1⟩ := ints_to HU.out (endN u node) ((endN u node : Nat) : Int) rfl (by rw [up_len]; exact he2)
  obtain ⟨X2, hx2, hi2⟩ := ints_from HU.out (endN u node) ((endN u node : Nat) : Int) rfl (by rw [up_len]; exact he2)
  rw [up_take] at hi1
  rw [up_len, up_drop] at hi2
  rw [up_len] at hx2
  have HI1 := Lib.hid hi1
  have HI2 := Lib.hid hi2
  have HX1 := Lib.hid hx1
  have HX2 := Lib.hid hx2
  have HEN := Lib.hid (s_l04End w _ u node HU.out hn (by omega))
  have HUL := Lib.hid hul
  have HVL := Lib.hid hvl
  have G3 := Lib.hid g3
  have HCN := Lib.hid (show ∀ W : World, Below w.heap.size w W → W.cell? (ad.add node) = some (.int .i64 (a : Int)) from fun W hW => by
    rw [hW.cell (by rw [block_add]; have := World.block_lt_of_cell? w _ hcz; rwa [block_add] at this)]; exact hcz)
  have HTK := Lib.hid (show (u.take (endN u node)).length = endN u node from by rw [List.length_take]; omega)
  have HDL := Lib.hid (show (u.drop (endN u node)).length = u.length - endN u node from List.length_drop)
  have hni : (node : Int) < (u.length : Int) := by omega
  have hn0 : (0 : Int) ≤ (node : Int) := by omega
  generalize endN u node = E at he1 he2 HGL HI1 HI2 HX1 HX2 HEN HTK HDL
  clear hu hv hr h3 g3 hz hla hga hcz hx1 hx2 hi1 hi2 hul hvl
  have hx1 := HX1.out
  go_enter Try.func200, Try.ntmps200
  go_wp2_with (first
    | (go_at_call 199; refine HEN.out.mono ?_; rintro e w1 ⟨rfl, n1, rfl⟩)
    | (go_at_call 125; refine (s_l01OwnT _ _ (up (u.take E)) (HI1.out.drewN n1) (by rw [up_len, HTK.out]; omega)).mono ?_; rintro e w2 ⟨x2, rfl, ho2, hb2⟩; have HO2 := Lib.hid (show OwnInts w2 w.heap.size tI x2 (up (u.take E)) from ho2); have HB2 := Lib.hid ((below_drewN (Below.refl w.heap.size w) n1).trans hb2); clear ho2 hb2))
  clear hx1
  go_loopw [8, 9] (fun o x wr => ∃ j : Nat, j ≤ v.length ∧ x = .int .i64 j ∧ OwnInts wr w.heap.size tI o (up (u.take E ++ (v.take j).map fun x => a + 1 + x)) ∧ Below w.heap.size w wr) (fun _ x _ => v.length - (intOf x).toNat)
  case atStart => exact ⟨0, Nat.zero_le _, rfl, by simpa using HO2.out, HB2.out⟩
  case round =>
    obtain ⟨j, hj, rfl, ho, hb⟩ := hrel
    clear HO2 HB2
    have HO := Lib.hid ho
    have HB := Lib.hid hb
    clear ho hb
    by_cases hlt : j < v.length
    · obtain ⟨av, zb, rfl, hzb, -, hcb0⟩ := G3.out j hlt
      obtain ⟨b, hlb, rfl⟩ := up_getD hzb
      have hcb : wr.cell? (av.add j) = some (.int .i64 (b : Int)) := by
        rw [HB.out.cell (by rw [block_add]; have := World.block_lt_of_cell? w _ hcb0; rwa [block_add] at this)]; exact hcb0
      have hcn := HCN.out wr HB.out
      have hb1 := HVL.out b (List.mem_of_getElem? hlb)
      have hz64 : In64 ((a : Int) + 1 + (b : Int)) := by unfold In64; omega
      have HTS := Lib.hid (show (v.take (j + 1)).map (fun x => a + 1 + x) = (v.take j).map (fun x => a + 1 + x) ++ [a + 1 + b] from by rw [List.take_add_one, hlb]; simp)
      have HUZ := Lib.hid (show up [a + 1 + b] = [(a : Int) + 1 + (b : Int)] from by simp [up])
      have HLE := Lib.hid (show (ints (up (u.take E ++ (v.take j).map fun x => a + 1 + x))).length ≤ 1000 from by rw [ints_len, up_len, List.length_append, List.length_map, List.length_take, List.length_take]; omega)
      have hji : (j : Int) < (v.length : Int) := by omega
      have hB := HB.out.size
      have hbd1 : -9223372036854775808 ≤ (a : Int) + 1 ∧ (a : Int) + 1 ≤ 9223372036854775807 := by omega
      have hbd2 : -9223372036854775808 ≤ (a : Int) + 1 + (b : Int) ∧ (a : Int) + 1 + (b : Int) ≤ 9223372036854775807 := by omega
      have hw1 : wrap64 ((a : Int) + 1) = (a : Int) + 1 := w64_in' _ hbd1
      have hw1' : IntKind.i64.wrap ((a : Int) + 1) = (a : Int) + 1 := IntWalk.i64_in _ hbd1
      have hw2 : wrap64 ((a : Int) + 1 + (b : Int)) = (a : Int) + 1 + (b : Int) := w64_in' _ hbd2
      have hw2' : IntKind.i64.wrap ((a : Int) + 1 + (b : Int)) = (a : Int) + 1 + (b : Int) := IntWalk.i64_in _ hbd2
      clear hbd1 hbd2
      clear hcb0 hzb hlb
      go_wp2_with fail
      go_region_law (refine stp_app1 T_int (B := w.heap.size) (W := wr.drew.alloc (.cells #[.int .i64 ((a : Int) + 1 + (b : Int))] tI)) (u := .int .i64 ((a : Int) + 1 + (b : Int))) (ad := ⟨wr.heap.size, 0, none⟩) (HO.out.1.below (((Below.refl _ _).drew).alloc (Nat.le_refl _) _)) (by have := HLE.out; clear hw1 hw1' hw2 hw2'; omega) (by clear hw1 hw1' hw2 hw2'; simp; omega) (by rfl) rfl (by rfl) (by rfl) (by rfl) ((Blk.new wr.drew _ _).cell 0) ?_; intro v7 w7 hown7 hgr7)
      all_goals
        have HN7 := Lib.hid (own_pushed HO.out.2 hz64 hown7 HUZ.out)
        have hbd : Below wr.heap.size wr (wr.drew.alloc (.cells #[.int .i64 ((a : Int) + 1 + (b : Int))] tI)) := ((Below.refl _ _).drew).alloc (Nat.le_refl _) _
        have HB7 := Lib.hid (hgr7.below (HB.out.trans (hbd.mono hB)) (by clear hw1 hw1' hw2 hw2'; simp; omega) HO.out.1.ge)
        clear hown7 hgr7 hbd hcb hcn hw1 hw1' hw2 hw2'
        go_wp2_with fail
        go_roundw
        case rel =>
          have h := HN7.out
          rw [List.append_assoc, ← HTS.out] at h
          exact ⟨j + 1, by omega, by go_num, h, HB7.out⟩
        case measure => simp [intOf]; omega
    · have hje : j = v.length := by omega
      have HFE := Lib.hid (show u.take E ++ (v.take j).map (fun x => a + 1 + x) ++ u.drop E = graL u node v from by rw [hje, List.take_length, HGL.out])
      have hx2 := HX2.out
      have HLE := Lib.hid (show (ints (up (u.take E ++ (v.take j).map fun x => a + 1 + x))).length ≤ 1000 from by rw [ints_len, up_len, List.length_append, List.length_map, List.length_take, List.length_take]; omega)
      have HSM := Lib.hid (show (graL u node v).length ≤ 1000 ∧ ∀ l ∈ graL u node v, l ≤ 1000000 from by
        rw [HGL.out]
        refine ⟨by simp only [List.length_append, List.length_map, HTK.out, HDL.out]; omega, fun l hl => ?_⟩
        rcases List.mem_append.1 hl with hl | hl
        · rcases List.mem_append.1 hl with hl | hl
          · have := HUL.out l (List.mem_of_mem_take hl); omega
          · obtain ⟨x, hx, rfl⟩ := List.mem_map.1 hl
            have := HVL.out x hx; omega
        · have := HUL.out l (List.mem_of_mem_drop hl); omega)
      have hlt' : ¬ ((j : Int) < (v.length : Int)) := by omega
      clear hje
      go_wp2_with (first
        | (at_builtin; refine wpList_appN T_int HO.out.1 (HI2.out.below HB.out).1 (by have h1 := HLE.out; have h2 := HDL.out; rw [ints_len (up (u.drop E)), up_len]; omega) HB.out.size (ints_oneT _) (by rfl) rfl (by rfl) (by rfl) ?_; intro v5 w5 hown5 hgr5; have HN5 := Lib.hid (show OwnInts w5 w.heap.size tI v5 (up (graL u node v)) from by rw [← HFE.out, up_append]; exact ⟨by simpa [ints] using hown5, fun y hy => by rcases List.mem_append.1 hy with hy | hy; exact HO.out.2 y hy; exact HI2.out.2 y hy⟩); have HB5 := Lib.hid (hgr5.below HB.out HB.out.size HO.out.1.ge); clear hown5 hgr5)
        | (go_at_call 95; refine (s_l03Canon 9 _ _ (graL u node v) r HN5.out.ints HR.out HSM.out.1 HSM.out.2).mono ?_; rintro e w6 ⟨x6, rfl, hx6, hb6⟩; have HX6 := Lib.hid hx6; have HB6 := Lib.hid hb6; clear hx6 hb6))
      go_ret
      exact ⟨_, rfl, HX6.out.mono HB5.out.size, HB5.out.trans (HB6.out.mono HB5.out.size)⟩
end Go.Proofs.Ytbjeibcombjfgaa

