/- Plain: the pieces of a tree have together as many nodes as the tree. No walk. | Plain: the list of partitions: pieces and skeletons, the numbers of masks. No walk. | Walks: PartitionsOf of both. | Walks: lists of numbers that are drawn: l01List of the reference, list5 of the laws. | Walks: rows and squares of fractions (l09Row, l09Square of the reference). | Walk: tableaus by name (l09Named of the reference). | Walk: tableaus by name (l09Named of the reference). | One round of 'z.A = append(z.A, row)', in plain words of memory. No program in sight. | One round of 'z.A = append(z.A, row); z.B = append(z.B, x)', in plain words of memory. No program in sight. | Rows and numbers that grow side by side, in plain words of memory. No program in sight. -/
import Derived.Test.YtbjeibcombjfgaaQf10
import Derived.Test.YtbjeibcombjfgaaQf7
import Derived.Test.YtbjeibcombjfgaaQf35
import Derived.Test.YtbjeibcombjfgaaQf33
import Derived.Test.YtbjeibcombjfgaaQf37
import Derived.Test.YtbjeibcombjfgaaQf6
import Derived.Test.YtbjeibcombjfgaaQf25
import Derived.Test.YtbjeibcombjfgaaQf11
import Derived.Test.YtbjeibcombjfgaaQf5
import Derived.Test.YtbjeibcombjfgaaQf2
set_option maxRecDepth 100000
set_option linter.unusedVariables false
set_option linter.unusedSimpArgs false
namespace Go.Proofs.Ytbjeibcombjfgaa

def topF (t : List Nat) (mask : Nat) : Nat → Nat → Nat
  | 0, i => i
  | f + 1, i => bif Nat.beq i 0 || mask.testBit i then i else topF t mask f (parN t (t.getD i 0) i - 1)
/-- the root of the piece of a node -/
def topN (t : List Nat) (mask i : Nat) : Nat := topF t mask i i
/-- each node but the first has a parent -/
def HasP (t : List Nat) : Prop := ∀ i, 0 < i → i < t.length → 0 < parN t (t.getD i 0) i
theorem parN_le' (t : List Nat) (l : Nat) : ∀ k, parN t l k ≤ k
  | 0 => Nat.le_refl 0
  | k + 1 => by
    unfold parN
    cases Nat.beq (t.getD k 0 + 1) l with
    | true => rw [cond_true]; exact Nat.le_refl _
    | false => rw [cond_false]; have := parN_le' t l k; omega
theorem topF_deep (t : List Nat) (mask : Nat) : ∀ (f g i : Nat), i ≤ f → i ≤ g → topF t mask f i = topF t mask g i
  | 0, 0, i, _, _ => rfl
  | 0, g + 1, i, h, _ => by
    have : i = 0 := by omega
    subst this
    rfl
  | f + 1, 0, i, _, h => by
    have : i = 0 := by omega
    subst this
    rfl
  | f + 1, g + 1, i, h1, h2 => by
    unfold topF
    cases hb : (Nat.beq i 0 || mask.testBit i) with
    | true => rfl
    | false =>
      rw [cond_false, cond_false]
      have := parN_le' t (t.getD i 0) i
      have hi : i ≠ 0 := fun e => by subst e; simp at hb
      exact topF_deep t mask f g _ (by omega) (by omega)
theorem topN_root (t : List Nat) (mask : Nat) {i : Nat} (h : i = 0 ∨ mask.testBit i = true) : topN t mask i = i := by
  unfold topN
  cases i with
  | zero => rfl
  | succ i =>
    rcases h with h | h
    · omega
    · unfold topF
      rw [h, Bool.or_true, cond_true]
theorem topN_step (t : List Nat) (mask : Nat) {i : Nat} (h0 : 0 < i) (h : mask.testBit i = false) : topN t mask i = topN t mask (parN t (t.getD i 0) i - 1) := by
  unfold topN
  cases i with
  | zero => omega
  | succ i =>
    rw [topF, h, Bool.or_false]
    show (bif false then i + 1 else _) = _
    rw [cond_false]
    have := parN_le' t (t.getD (i + 1) 0) (i + 1)
    exact topF_deep t mask _ _ _ (by omega) (Nat.le_refl _)
theorem topN_spec {t : List Nat} (hP : HasP t) (mask : Nat) : ∀ (n i : Nat), i ≤ n → i < t.length → topN t mask i ≤ i ∧ (topN t mask i = 0 ∨ mask.testBit (topN t mask i) = true)
  | n, 0, _, _ => by rw [topN_root t mask (.inl rfl)]; exact ⟨Nat.le_refl _, .inl rfl⟩
  | 0, i + 1, h, _ => by omega
  | n + 1, i + 1, h, hi => by
    by_cases hc : mask.testBit (i + 1) = true
    · rw [topN_root t mask (.inr hc)]
      exact ⟨Nat.le_refl _, .inr hc⟩
    · have hc : mask.testBit (i + 1) = false := by cases hb : mask.testBit (i + 1) <;> simp_all
      rw [topN_step t mask (by omega) hc]
      have h1 := parN_le' t (t.getD (i + 1) 0) (i + 1)
      have h2 := hP (i + 1) (by omega) hi
      have ih := topN_spec hP mask n (parN t (t.getD (i + 1) 0) (i + 1) - 1) (by omega) (by omega)
      exact ⟨by omega, ih.2⟩
def cntR (t : List Nat) (mask root : Nat) : List Nat → Nat → Nat
  | [], _ => 0
  | _ :: ls, i => (if topN t mask i = root then 1 else 0) + cntR t mask root ls (i + 1)
theorem pieF_len {t : List Nat} (hP : HasP t) (mask root : Nat) : ∀ (ls : List Nat) (i : Nat) (inn : List Bool) (out : List Nat), ls = t.drop i → root < i → inn.length = t.length → (∀ j, j < i → j < t.length → inn.getD j false = decide (root ≤ j ∧ topN t mask j = root)) → (∀ j, i ≤ j → inn.getD j false = false) →
    (pieF t mask root ls i inn out).length = out.length + cntR t mask root ls i
  | [], i, inn, out, _, _, _, _, _ => rfl
  | l :: ls, i, inn, out, hd, hr, hl, h, hz => by
    have hi : i < t.length := by
      refine Classical.byContradiction fun hx => ?_
      rw [List.drop_eq_nil_of_le (by omega)] at hd
      cases hd
    rw [List.drop_eq_getElem_cons hi] at hd
    injection hd with hl1 hd
    have hl2 : l = t.getD i 0 := by rw [List.getD_eq_getElem?_getD, List.getElem?_eq_getElem hi, hl1]; rfl
    subst hl2
    have p1 := parN_le' t (t.getD i 0) i
    have p2 := hP i (by omega) hi
    have key : (Nat.blt root (parN t (t.getD i 0) i) && (inn.getD (parN t (t.getD i 0) i - 1) false && !mask.testBit i)) = decide (topN t mask i = root) := by
      cases hc : mask.testBit i with
      | true =>
        rw [topN_root t mask (.inr hc)]
        simp only [Bool.not_true, Bool.and_false]
        exact (decide_eq_false (by omega)).symm
      | false =>
        rw [topN_step t mask (by omega) hc, h _ (by omega) (by omega)]
        simp only [Bool.not_false, Bool.and_true]
        by_cases hb : root < parN t (t.getD i 0) i
        · have : Nat.blt root (parN t (t.getD i 0) i) = true := Nat.ble_eq_true_of_le hb
          rw [this, Bool.true_and]
          exact decide_eq_decide.2 ⟨fun q => q.2, fun q => ⟨by omega, q⟩⟩
        · have : Nat.blt root (parN t (t.getD i 0) i) = false := by
            cases hx : Nat.blt root (parN t (t.getD i 0) i) with
            | true => exact absurd (Nat.le_of_ble_eq_true hx) hb
            | false => rfl
          rw [this, Bool.false_and]
          have := (topN_spec hP mask _ (parN t (t.getD i 0) i - 1) (Nat.le_refl _) (by omega)).1
          exact (decide_eq_false (by omega)).symm
    unfold pieF
    dsimp only
    rw [key]
    unfold cntR
    by_cases ht : topN t mask i = root
    · rw [decide_eq_true ht, cond_true, if_pos ht, pieF_len hP mask root ls (i + 1) _ _ hd (by omega) (by rw [List.length_set]; exact hl)]
      · rw [List.length_append, List.length_singleton]; omega
      · intro j hj hjl
        by_cases e : j = i
        · subst e
          rw [List.getD_eq_getElem?_getD, List.getElem?_set_self (by omega)]
          exact (decide_eq_true ⟨by omega, ht⟩).symm
        · rw [List.getD_eq_getElem?_getD, List.getElem?_set_ne (by omega), ← List.getD_eq_getElem?_getD]
          exact h j (by omega) hjl
      · intro j hj
        rw [List.getD_eq_getElem?_getD, List.getElem?_set_ne (by omega), ← List.getD_eq_getElem?_getD]
        exact hz j (by omega)
    · rw [decide_eq_false ht, cond_false, if_neg ht, pieF_len hP mask root ls (i + 1) _ _ hd (by omega) hl]
      · omega
      · intro j hj hjl
        by_cases e : j = i
        · subst e
          rw [hz j (Nat.le_refl _)]
          exact (decide_eq_false (fun q => ht q.2)).symm
        · exact h j (by omega) hjl
      · intro j hj
        exact hz j (by omega)
theorem cntR_skip {t : List Nat} (hP : HasP t) (mask : Nat) {root : Nat} (hr : root = 0 ∨ mask.testBit root = true) (hl : root < t.length) : ∀ (d k : Nat), k + d = root → cntR t mask root (t.drop k) k = 1 + cntR t mask root (t.drop (root + 1)) (root + 1)
  | 0, k, h => by
    have : k = root := by omega
    subst this
    rw [List.drop_eq_getElem_cons hl]
    unfold cntR
    rw [if_pos (topN_root t mask hr)]
    congr 1
    cases t.drop (k + 1) <;> rfl
  | d + 1, k, h => by
    rw [List.drop_eq_getElem_cons (show k < t.length by omega)]
    show (if topN t mask k = root then 1 else 0) + cntR t mask root (t.drop (k + 1)) (k + 1) = _
    have := (topN_spec hP mask k k (Nat.le_refl _) (by omega)).1
    rw [if_neg (by omega), cntR_skip hP mask hr hl d (k + 1) (by omega), Nat.zero_add]
/-- the length of a piece -/
theorem pieN_len {t : List Nat} (hP : HasP t) (mask : Nat) {root : Nat} (hr : root = 0 ∨ mask.testBit root = true) (hl : root < t.length) : (pieN t mask root).length = cntR t mask root t 0 := by
  have h1 := cntR_skip hP mask hr hl root 0 (by omega)
  rw [List.drop_zero] at h1
  unfold pieN
  have hz : ∀ j, ((List.replicate t.length false).set root true).getD j false = decide (j = root) := fun j => by
    rw [List.getD_eq_getElem?_getD]
    by_cases e : j = root
    · subst e
      rw [List.getElem?_set_self (by rw [List.length_replicate]; exact hl)]
      exact (decide_eq_true rfl).symm
    · rw [List.getElem?_set_ne (by omega), List.getElem?_replicate, decide_eq_false e]
      split <;> rfl
  rw [pieF_len hP mask root (t.drop (root + 1)) (root + 1) _ _ rfl (by omega) (by rw [List.length_set, List.length_replicate]) (fun j hj hjl => ?_) (fun j hj => ?_), h1]
  · rfl
  · rw [hz]
    by_cases e : j = root
    · rw [e]
      exact decide_eq_decide.2 ⟨fun _ => ⟨Nat.le_refl _, topN_root t mask hr⟩, fun _ => rfl⟩
    · rw [decide_eq_false e]
      have := (topN_spec hP mask j j (Nat.le_refl _) hjl).1
      exact (decide_eq_false (by omega)).symm
  · rw [hz]
    exact decide_eq_false (by omega)
def sumN : List Nat → Nat
  | [] => 0
  | x :: xs => x + sumN xs
theorem sumN_add (f g : Nat → Nat) : ∀ R : List Nat, sumN (R.map fun r => f r + g r) = sumN (R.map f) + sumN (R.map g)
  | [] => rfl
  | r :: R => by
    simp only [List.map_cons, sumN]
    rw [sumN_add f g R]
    omega
theorem sumN_zero (f : Nat → Nat) : ∀ R : List Nat, (∀ r ∈ R, f r = 0) → sumN (R.map f) = 0
  | [], _ => rfl
  | r :: R, h => by
    simp only [List.map_cons, sumN]
    rw [h r (List.mem_cons_self), sumN_zero f R fun x hx => h x (List.mem_cons_of_mem _ hx)]
theorem sumN_one {x : Nat} : ∀ {R : List Nat}, R.Nodup → x ∈ R → sumN (R.map fun r => if x = r then 1 else 0) = 1
  | [], _, h => by cases h
  | r :: R, hn, h => by
    simp only [List.map_cons, sumN]
    have hn2 := List.nodup_cons.1 hn
    by_cases e : x = r
    · rw [if_pos e, sumN_zero]
      intro y hy
      exact if_neg fun q => hn2.1 (by rw [← e, q]; exact hy)
    · rw [if_neg e, sumN_one hn2.2 (by rcases List.mem_cons.1 h with h | h; exact absurd h e; exact h)]
theorem cnt_total {t : List Nat} (mask : Nat) {R : List Nat} (hn : R.Nodup) : ∀ (ls : List Nat) (i : Nat), (∀ j, i ≤ j → j < i + ls.length → topN t mask j ∈ R) → sumN (R.map fun r => cntR t mask r ls i) = ls.length
  | [], i, _ => sumN_zero _ R fun r _ => rfl
  | l :: ls, i, h => by
    have e : (R.map fun r => cntR t mask r (l :: ls) i) = R.map fun r => (if topN t mask i = r then 1 else 0) + cntR t mask r ls (i + 1) := rfl
    rw [e, sumN_add, sumN_one hn (h i (Nat.le_refl _) (by rw [List.length_cons]; omega)), cnt_total mask hn ls (i + 1) fun j h1 h2 => h j (by omega) (by rw [List.length_cons]; omega), List.length_cons]
    omega
theorem cutsN_mem (mask : Nat) {x : Nat} : ∀ (n i : Nat), x ∈ cutsN mask n i ↔ i ≤ x ∧ x < i + n ∧ mask.testBit x = true
  | 0, i => ⟨fun h => (by cases h), fun h => (by omega)⟩
  | n + 1, i => by
    unfold cutsN
    cases hb : mask.testBit i with
    | true =>
      rw [cond_true, List.mem_cons, cutsN_mem mask n (i + 1)]
      constructor
      · rintro (rfl | ⟨h1, h2, h3⟩)
        · exact ⟨Nat.le_refl _, by omega, hb⟩
        · exact ⟨by omega, by omega, h3⟩
      · rintro ⟨h1, h2, h3⟩
        by_cases e : x = i
        · exact .inl e
        · exact .inr ⟨by omega, by omega, h3⟩
    | false =>
      rw [cond_false, cutsN_mem mask n (i + 1)]
      constructor
      · rintro ⟨h1, h2, h3⟩
        exact ⟨by omega, by omega, h3⟩
      · rintro ⟨h1, h2, h3⟩
        have e : x ≠ i := fun e => by rw [e, hb] at h3; cases h3
        exact ⟨by omega, by omega, h3⟩
theorem cutsN_nodup (mask : Nat) : ∀ (n i : Nat), (cutsN mask n i).Nodup
  | 0, _ => List.nodup_nil
  | n + 1, i => by
    unfold cutsN
    cases mask.testBit i with
    | true =>
      rw [cond_true]
      exact List.nodup_cons.2 ⟨fun h => by have := (cutsN_mem mask n (i + 1)).1 h; omega, cutsN_nodup mask n (i + 1)⟩
    | false => rw [cond_false]; exact cutsN_nodup mask n (i + 1)
def okPar (t : List Nat) : Bool := (List.range t.length).all fun i => Nat.beq i 0 || Nat.blt 0 (parN t (t.getD i 0) i)
theorem okPar_all : (List.range 8).all (fun m => (levs m).all okPar) = true := by decide +kernel
theorem hasP_8 {t : List Nat} (ht : lvl t = true) (hl : t.length ≤ 8) : HasP t := by
  intro i h0 hi
  have h1 := lev8 okPar_all ht hl
  unfold okPar at h1
  rw [List.all_eq_true] at h1
  have h2 := h1 i (List.mem_range.2 hi)
  rw [Bool.or_eq_true] at h2
  rcases h2 with h2 | h2
  · have := Nat.eq_of_beq_eq_true h2; omega
  · exact Nat.le_of_ble_eq_true h2
/-- the pieces have together as many nodes as the tree -/
theorem pieces_total {t : List Nat} (ht : lvl t = true) (hl : t.length ≤ 8) (mask : Nat) : sumN ((0 :: cutsN mask (t.length - 1) 1).map fun r => (pieN t mask r).length) = t.length := by
  have hP := hasP_8 ht hl
  have h0 : 0 < t.length := by obtain ⟨c, rfl, -⟩ := lvl_cons ht; simp
  have hm : ∀ r ∈ 0 :: cutsN mask (t.length - 1) 1, (r = 0 ∨ mask.testBit r = true) ∧ r < t.length := fun r hr => by
    rcases List.mem_cons.1 hr with rfl | hr
    · exact ⟨.inl rfl, h0⟩
    · have := (cutsN_mem mask _ _).1 hr
      exact ⟨.inr this.2.2, by omega⟩
  have e : ((0 :: cutsN mask (t.length - 1) 1).map fun r => (pieN t mask r).length) = (0 :: cutsN mask (t.length - 1) 1).map fun r => cntR t mask r t 0 := List.map_congr_left fun r hr => pieN_len hP mask (hm r hr).1 (hm r hr).2
  rw [e]
  refine cnt_total mask (List.nodup_cons.2 ⟨fun h => by have := (cutsN_mem mask _ _).1 h; omega, cutsN_nodup mask _ _⟩) t 0 fun j _ hj => ?_
  have hs := topN_spec hP mask j j (Nat.le_refl _) (by omega)
  by_cases e0 : topN t mask j = 0
  · rw [e0]; exact List.mem_cons_self
  · refine List.mem_cons_of_mem _ ((cutsN_mem mask _ _).2 ⟨by omega, by omega, ?_⟩)
    rcases hs.2 with h | h
    · exact absurd h e0
    · exact h
end Go.Proofs.Ytbjeibcombjfgaa

set_option linter.unusedVariables false
set_option linter.unusedSimpArgs false
namespace Go.Proofs.Ytbjeibcombjfgaa

def lenS : List (List Nat) → Nat
  | [] => 0
  | x :: xs => x.length + lenS xs
theorem lenS_perm {a b : List (List Nat)} (h : a.Perm b) : lenS a = lenS b := by
  induction h with
  | nil => rfl
  | cons x h ih => simp only [lenS, ih]
  | swap x y l => simp only [lenS]; omega
  | trans h1 h2 i1 i2 => rw [i1, i2]
theorem lenS_mapO {t : List Nat} {m : Nat} : ∀ {R : List Nat} {ys : List (List Nat)}, mapO (fun i => canO 9 (pieN t m i)) R = some ys → lenS ys = sumN (R.map fun r => (pieN t m r).length)
  | [], ys, h => by
    have : ys = [] := by have := mapO_len h; exact List.eq_nil_of_length_eq_zero this
    rw [this]; rfl
  | r :: R, ys, h => by
    obtain ⟨y, ys', rfl, h1, h2⟩ := mapO_cons h
    show y.length + lenS ys' = (pieN t m r).length + sumN _
    rw [canO_len h1, lenS_mapO h2]
structure PrtF (t : List Nat) (x : PK) : Prop where
  sum : lenS x.1 = t.length
  len : x.1.length = x.2.length
theorem prtN_F {t : List Nat} (ht : lvl t = true) (hl : t.length ≤ 8) (hc : canO 9 t = some t) {m : Nat} (hm : m < 2 ^ t.length) (h2 : m % 2 = 0) : PrtF t (prtN t m) := by
  obtain ⟨h1, h3, h4, h5, -⟩ := cut_parts (cut_ok ht hl hc hm h2)
  rw [h1] at h3
  obtain ⟨ys, hy⟩ : ∃ ys, mapO (fun i => canO 9 (pieN t m i)) (0 :: cutsN m (t.length - 1) 1) = some ys := mapO_ex fun i hi => by
    obtain ⟨a1, a2, -⟩ := h3 i hi
    obtain ⟨r, hr, -⟩ := canO_8 a1 a2
    exact ⟨r, hr⟩
  obtain ⟨r, hr, -⟩ := canO_8 h4 h5
  have e : prtN t m = (srtB ys, r) := by unfold prtN; rw [hy, hr]; rfl
  rw [e]
  refine ⟨?_, ?_⟩
  · show lenS (srtB ys) = _
    rw [lenS_perm (srtB_perm ys), lenS_mapO hy, pieces_total ht hl]
  · show (srtB ys).length = r.length
    rw [(srtB_perm ys).length_eq, mapO_len hy, canO_len hr]
    unfold sklN
    rw [List.length_cons, List.length_cons, List.length_map]
/-- the partitions, equal ones once -/
def prG (t : List Nat) : List (PK × Nat) := grpL cmpP (srtS ltP (prtL t (2 ^ (t.length - 1))))
theorem prt_mem {t : List Nat} {k : Nat} {y : PK} : y ∈ srtS ltP (prtL t k) ↔ ∃ i, i < k ∧ y = prtN t (2 * i) := by
  have hp := srtSF_perm (lt := ltP) [] (prtL t k)
  have : y ∈ srtS ltP (prtL t k) ↔ y ∈ prtL t k := hp.mem_iff
  rw [this]
  unfold prtL
  rw [List.mem_map]
  constructor
  · rintro ⟨i, hi, rfl⟩
    exact ⟨i, List.mem_range.1 hi, rfl⟩
  · rintro ⟨i, hi, rfl⟩
    exact ⟨i, List.mem_range.2 hi, rfl⟩
theorem two_pow {n i : Nat} (h0 : 0 < n) (hi : i < 2 ^ (n - 1)) : 2 * i < 2 ^ n ∧ 2 * i % 2 = 0 := by
  obtain ⟨k, rfl⟩ : ∃ k, n = k + 1 := ⟨n - 1, by omega⟩
  rw [Nat.add_sub_cancel] at hi
  rw [Nat.pow_succ]
  omega
theorem prG_F {t : List Nat} (ht : lvl t = true) (hl : t.length ≤ 8) (hc : canO 9 t = some t) : ∀ x ∈ prG t, PrtF t x.1 := by
  refine grpL_mem cmpP (PrtF t) fun y hy => ?_
  obtain ⟨i, hi, rfl⟩ := prt_mem.1 hy
  have h0 : 0 < t.length := by obtain ⟨c, rfl, -⟩ := lvl_cons ht; simp
  have := two_pow h0 hi
  exact prtN_F ht hl hc this.1 this.2
theorem prG_cnt (t : List Nat) : cntS (prG t) = 2 ^ (t.length - 1) := by
  unfold prG
  rw [grpL_cnt]
  have hp := srtSF_perm (lt := ltP) [] (prtL t (2 ^ (t.length - 1)))
  have : (srtS ltP (prtL t (2 ^ (t.length - 1)))).length = (prtL t (2 ^ (t.length - 1))).length := hp.length_eq
  rw [this]
  unfold prtL
  rw [List.length_map, List.length_range]
theorem prG_all {t : List Nat} {i : Nat} (hi : i < 2 ^ (t.length - 1)) : ∃ x ∈ prG t, x.1 = prtN t (2 * i) :=
  grpL_all (fun a b h => (cmpP_zero a b).1 h) (prt_mem.2 ⟨i, hi, rfl⟩)
end Go.Proofs.Ytbjeibcombjfgaa

set_option maxRecDepth 100000
set_option linter.unusedVariables false
set_option linter.unusedSimpArgs false
namespace Go.Proofs.Ytbjeibcombjfgaa
open Go.RowKit Go.Sort Go.Shelf

/-- what PartitionsOf answers -/
def ptC (zs : List Int) : Int := if isT zs then 0 else 1
def ptR (zs : List Int) : List (PK × Nat) := if isT zs then prG (canN (toN zs)) else []
/-- a tree that is taken -/
structure TakenT (zs : List Int) (n t : List Nat) : Prop where
  zs : zs = up n
  lv : lvl n = true
  n8 : n.length ≤ 8
  can : canO 9 n = some t
  len : t.length = n.length
  tlv : lvl t = true
  t8 : t.length ≤ 8
  t0 : 0 < t.length
  tcan : canO 9 t = some t
  nl : ∀ l ∈ n, l ≤ 1000000
  tl : ∀ l ∈ t, l ≤ 1000000
theorem takenT {zs : List Int} (h : isT zs = true) : ∃ n t, TakenT zs n t := by
  obtain ⟨n, rfl, hlv, h8⟩ := isT_up h
  obtain ⟨t, hc, htl, htc⟩ := canO_8 hlv h8
  have hlen := canO_len hc
  have hpos : 0 < n.length := by obtain ⟨c, rfl, -⟩ := lvl_cons hlv; simp
  exact ⟨n, t, rfl, hlv, h8, hc, hlen, htl, by omega, by omega, htc, fun l hl => by have := lvl_le hlv l hl; omega, fun l hl => by have := lvl_le htl l hl; omega⟩
theorem ptR_eq {zs : List Int} {n t : List Nat} (h : TakenT zs n t) (ht : isT zs = true) : ptR zs = prG t := by
  unfold ptR
  rw [if_pos ht, h.zs, toN_up]
  unfold canN
  rw [h.can]
  rfl
set_option maxHeartbeats 4000000 in
theorem i_PartitionsOf (w : World) (v : Value) (zs : List Int) (ha : Ints w v zs) :
    Calls Try.prog 53 #[v] w fun e w' => ∃ x, e = .returned (.tuple #[x, .int .i64 (ptC zs)]) ∧ SLs ePc tPt w' w.heap.size x (ptR zs) ∧ Below w.heap.size w w' := by
  have HIS := Lib.hid (i_IsLevels w v zs ha)
  have HA := Lib.hid ha
  obtain ⟨A, c, rfl, -, -, -⟩ := ha.open_
  clear ha
  cases ht : isT zs with
  | false =>
    have HC := Lib.hid (show ptC zs = 1 ∧ ptR zs = [] from ⟨by simp [ptC, ht], by simp [ptR, ht]⟩)
    rw [ht] at HIS
    clear ht
    rw [HC.out.1, HC.out.2]
    go_enter Try.func53, Try.ntmps53
    go_wp2_with (go_at_call 89; refine HIS.out.mono ?_; rintro e w1 ⟨rfl, rfl⟩)
    go_ret2
    exact ⟨_, rfl, ⟨[], OwnK.nil _ _ _ _, Elts.nil _ _ _⟩, Below.refl _ _⟩
  | true =>
    obtain ⟨n, t, hT⟩ := takenT ht
    have HT := Lib.hid hT
    have HC := Lib.hid (show ptC zs = 0 ∧ ptR zs = prG t from ⟨by simp [ptC, ht], ptR_eq hT ht⟩)
    rw [ht] at HIS
    have hz := hT.zs
    have HCA := Lib.hid (fun X (h : Ints X (.slice A zs.length c) (up n)) => i_canonical 9 X _ n t h hT.can (by have := hT.n8; omega) hT.nl)
    have HPO := Lib.hid (fun X v (h : Ints X v (up t)) => i_partitionsOf X v t h hT.tlv hT.t8 hT.tcan hT.tl)
    rw [hz] at HA
    rw [HC.out.1, HC.out.2]
    have HAZ := Lib.hid (show Ints w (.slice A zs.length c) (up n) from by rw [hz]; exact HA.out)
    clear ht hT hz HA
    go_enter Try.func53, Try.ntmps53
    go_wp2_with (first
      | (go_at_call 89; refine HIS.out.mono ?_; rintro e w1 ⟨rfl, rfl⟩)
      | (go_at_call 98; go_loud (refine (HCA.out _ HAZ.out).mono ?_; rintro e w2 ⟨x2, rfl, hx2, hb2⟩; have HX2 := Lib.hid hx2; have HB2 := Lib.hid hb2; clear hx2 hb2))
      | (go_at_call 110; go_loud (refine (HPO.out _ _ HX2.out.ints).mono ?_; rintro e w3 ⟨x3, rfl, hx3, hb3⟩; have HX3 := Lib.hid hx3; have HB3 := Lib.hid hb3; clear hx3 hb3)))
    go_ret2
    exact ⟨_, rfl, HX3.out.mono HB2.out.size, HB2.out.trans (HB3.out.mono HB2.out.size)⟩
set_option maxHeartbeats 4000000 in
theorem s_PartitionsOf (w : World) (v : Value) (zs : List Int) (ha : Ints w v zs) :
    Calls Try.prog 54 #[v] w fun e w' => ∃ x, e = .returned (.tuple #[x, .int .i64 (ptC zs)]) ∧ SLs ePc tPt w' w.heap.size x (ptR zs) ∧ Below w.heap.size w w' := by
  have HIS := Lib.hid (s_l03Is w v zs ha)
  have HA := Lib.hid ha
  obtain ⟨A, c, rfl, -, -, -⟩ := ha.open_
  clear ha
  cases ht : isT zs with
  | false =>
    have HC := Lib.hid (show ptC zs = 1 ∧ ptR zs = [] from ⟨by simp [ptC, ht], by simp [ptR, ht]⟩)
    rw [ht] at HIS
    clear ht
    rw [HC.out.1, HC.out.2]
    go_enter Try.func54, Try.ntmps54
    go_wp2_with (go_at_call 111; refine HIS.out.mono ?_; rintro e w1 ⟨rfl, d, rfl⟩)
    go_ret2
    exact ⟨_, rfl, ⟨[], OwnK.nil _ _ _ _, Elts.nil _ _ _⟩, below_drewN (Below.refl _ _) _⟩
  | true =>
    obtain ⟨n, t, hT⟩ := takenT ht
    have HT := Lib.hid hT
    have HC := Lib.hid (show ptC zs = 0 ∧ ptR zs = prG t from ⟨by simp [ptC, ht], ptR_eq hT ht⟩)
    rw [ht] at HIS
    have hz := hT.zs
    have HCA := Lib.hid (fun X (h : Ints X (.slice A zs.length c) (up n)) => s_l03Canon 9 X _ n t h hT.can (by have := hT.n8; omega) hT.nl)
    have HPO := Lib.hid (fun X v (h : Ints X v (up t)) => s_l16Partitions X v t h hT.tlv hT.t8 hT.tcan hT.tl)
    rw [hz] at HA
    rw [HC.out.1, HC.out.2]
    have HAZ := Lib.hid (show Ints w (.slice A zs.length c) (up n) from by rw [hz]; exact HA.out)
    clear ht hT hz HA
    go_enter Try.func54, Try.ntmps54
    go_wp2_with (first
      | (go_at_call 111; refine HIS.out.mono ?_; rintro e w1 ⟨rfl, d, rfl⟩)
      | (go_at_call 95; go_loud (refine (HCA.out _ (HAZ.out.drewN d)).mono ?_; rintro e w2 ⟨x2, rfl, hx2, hb2⟩; have HX2 := Lib.hid hx2; have HB2 := Lib.hid (show Below w.heap.size w w2 from (below_drewN (Below.refl w.heap.size w) d).trans hb2); clear hx2 hb2))
      | (go_at_call 112; go_loud (refine (HPO.out _ _ HX2.out.ints).mono ?_; rintro e w3 ⟨x3, rfl, hx3, hb3⟩; have HX3 := Lib.hid hx3; have HB3 := Lib.hid hb3; clear hx3 hb3)))
    go_ret2
    exact ⟨_, rfl, HX3.out.mono HB2.out.size, HB2.out.trans (HB3.out.mono HB2.out.size)⟩
end Go.Proofs.Ytbjeibcombjfgaa

set_option maxRecDepth 100000
set_option linter.unusedVariables false
set_option linter.unusedSimpArgs false
namespace Go.Proofs.Ytbjeibcombjfgaa
open Go.RowKit

/-! ### the laws' lists -/
end Go.Proofs.Ytbjeibcombjfgaa

set_option maxRecDepth 100000
set_option linter.unusedVariables false
set_option linter.unusedSimpArgs false
namespace Go.Proofs.Ytbjeibcombjfgaa
open Go.RowKit

/-- n numbers -/
def Nl (n : Nat) (zs : List Int) : Prop := zs.length = n ∧ Nums zs
/-- a square of numbers -/
def Sqm (m n : Nat) (xss : List (List Int)) : Prop := xss.length = m ∧ ∀ zs ∈ xss, Nl n zs
theorem Nl.snoc {n : Nat} {zs : List Int} {z : Int} (h : Nl n zs) (hz : 0 ≤ z ∧ z ≤ 10006) : Nl (n + 1) (zs ++ [z]) := by
  refine ⟨by rw [List.length_append, h.1]; rfl, fun y hy => ?_⟩
  rcases List.mem_append.1 hy with hy | hy
  · exact h.2 y hy
  · simp at hy; subst hy; exact hz
theorem Sqm.snoc {m n : Nat} {xss : List (List Int)} {zs : List Int} (h : Sqm m n xss) (hz : Nl n zs) : Sqm (m + 1) n (xss ++ [zs]) := by
  refine ⟨by rw [List.length_append, h.1]; rfl, fun y hy => ?_⟩
  rcases List.mem_append.1 hy with hy | hy
  · exact h.2 y hy
  · simp at hy; subst hy; exact hz
theorem Nl.nil : Nl 0 [] := ⟨rfl, fun z hz => by simp at hz⟩
theorem Sqm.nil (n : Nat) : Sqm 0 n [] := ⟨rfl, fun z hz => by simp at hz⟩
/-- one more row -/
theorem LA.push {w w2 w3 : World} {B : Nat} {v v' r : Value} {xss : List (List Int)} {zs : List Int} {vs : List Value} (h1 : Own w B tL v vs) (h2 : RR w B vs xss) (h3 : vs.Pairwise Apart) (hb : Below w.heap.size w w2) (hr : OwnInts w2 w.heap.size tI r zs) (hB : B ≤ w.heap.size) (ho : Own w3 B tL v' (vs ++ [r])) (hg : w2.grownBy w3 v.ownBlock) :
    RR w3 B (vs ++ [r]) (xss ++ [zs]) ∧ (vs ++ [r]).Pairwise Apart :=
  ⟨LL.snoc (h1.below hb) (h2.below hb) (hr.mono hB) ho hg, pairApart_snoc h3 (h2.fresh (Nat.le_refl _) hr.1.ge)⟩
end Go.Proofs.Ytbjeibcombjfgaa

set_option maxRecDepth 100000
set_option linter.unusedVariables false
set_option linter.unusedSimpArgs false
namespace Go.Proofs.Ytbjeibcombjfgaa
open Go.RowKit

abbrev tTb : TypeId := 27
end Go.Proofs.Ytbjeibcombjfgaa

set_option maxRecDepth 100000
set_option linter.unusedVariables false
set_option linter.unusedSimpArgs false
namespace Go.Proofs.Ytbjeibcombjfgaa
open Go.RowKit

end Go.Proofs.Ytbjeibcombjfgaa

set_option linter.unusedVariables false
set_option linter.unusedSimpArgs false
namespace Go.Proofs.Ytbjeibcombjfgaa
open Go.RowKit

theorem Blk.grow {w w' : World} {g : Nat} {t : TypeId} {cs : Array Value} {v v' : Value} (h : Blk w g t cs) (hg : Grow w w' v v') (hne : v.ownBlock ≠ some g) : Blk w' g t cs :=
  (hg.1.block g h.lt (fun e => hne e.symm)).trans h
theorem Blk.both {w : World} {g : Nat} {t : TypeId} {cs : Array Value} {u : Value} (h : Blk w g t cs) (h0 : cs[0]? = some u) : w.cell? ⟨g, 0, none⟩ = some u ∧ w.frozen? ⟨g, 0, none⟩ = false := ⟨(h.cell 0).trans h0, h.frozen 0⟩

/-- the state of a tableau that is filled: block p holds it, the rows lie behind p, the weights before p -/
structure Fill (w0 w : World) (p : Nat) (va vb : Value) (vs : List Value) (N : Nat) (rows : List (List Int)) (Bs : List Int) : Prop where
  blk : Blk w p 27 #[va, vb]
  own : Own w (p + 1) tL va vs
  rows : RowsOwn w (p + 1) w.heap.size tI vs rows
  ws : OI w N p tI vb Bs
  le : w0.heap.size ≤ N
  below : Below w0.heap.size w0 w

section
variable {w0 wr w2 w3 : World} {p N : Nat} {va vb v1 r : Value} {vs : List Value} {rows : List (List Int)} {zs Bs : List Int}
theorem Fill.lt (h : Fill w0 wr p va vb vs N rows Bs) : p < wr.heap.size := h.blk.lt
theorem Fill.np (h : Fill w0 wr p va vb vs N rows Bs) : va.ownBlock ≠ some p := fun e => by have := h.own.ge p e; omega
theorem Fill.after (h : Fill w0 wr p va vb vs N rows Bs) (hb2 : Below wr.heap.size wr w2) : Blk w2 p 27 #[va, vb] := h.blk.below hb2 h.lt
theorem Fill.next (h : Fill w0 wr p va vb vs N rows Bs) (hp : w0.heap.size ≤ p) (hb2 : Below wr.heap.size wr w2) (ho2 : OwnInts w2 wr.heap.size tI r zs)
    (hown1 : Own w3 (p + 1) tL v1 (vs ++ [r])) (hgr : Grow w2 w3 va v1) :
    Fill w0 (w3.setCell ⟨p, 0, none⟩ v1) p v1 vb (vs ++ [r]) N (rows ++ [zs]) Bs := by
  have hsz : p + 1 ≤ wr.heap.size := h.lt
  have hs2 := hb2.size
  have hs3 := hgr.1.size
  have hO2 := h.own.below hb2
  have hK3 := (h.after hb2).grow hgr h.np
  have hR2 := ((h.rows.below hb2).mono (Nat.le_refl _) hs2).snoc (u := r) (zs := zs) ⟨ho2.mono hsz, ho2.1.lt⟩ (h.rows.apart (M := 0) (fun b hb => .inl (ho2.1.ge b hb)))
  have hR3 := hR2.other hgr.1 (fun j u hu => by
    have hj := (List.getElem?_eq_some_iff.1 hu).1
    have hx : (rows ++ [zs])[j]? = some ((rows ++ [zs])[j]'(by rw [← hR2.1]; exact hj)) := List.getElem?_eq_getElem _
    exact Own.ne_of_type (hR2.2.1 j u _ hu hx).1.1 hO2 (by decide))
  have hc := (Chg.refl p (p + 1) w3).setCell (p := ⟨p, 0, none⟩) (Nat.le_refl _) (by simp) v1
  have hw := h.ws.below hb2
  have hw3 : OI w3 N p tI vb Bs := ⟨hw.1.kept hgr.1 (by
    cases hv : vb.ownBlock with
    | none => exact .inl hv
    | some b => exact .inr fun e => by have h1 := hw.2 b hv; have h2 := hO2.ge b (e.symm.trans hv); omega), hw.2⟩
  have hse : (w3.setCell ⟨p, 0, none⟩ v1).heap.size = w3.heap.size := by simp [World.setCell]
  have hBw : Below w0.heap.size w0 w2 := h.below.trans (hb2.mono (by have := h.below.size; omega))
  refine ⟨?_, ?_, ?_, ?_, h.le, ?_⟩
  · have := hK3.set_ 0 v1
    simpa using this
  · exact hown1.of_block fun b hb => hc.block b (hown1.lt b hb) (.inr (hown1.ge b hb))
  · rw [hse]
    exact (hR3.mono (Nat.le_refl _) hs3).kept hc (.inr (Nat.le_refl _))
  · exact hw3.kept hc (.inl (Nat.le_refl _))
  · exact (hgr.below hBw (by have := h.below.size; omega) (fun b hb => by have := hO2.ge b hb; omega)).setCell (p := ⟨p, 0, none⟩) hp v1
end
end Go.Proofs.Ytbjeibcombjfgaa

set_option linter.unusedVariables false
set_option linter.unusedSimpArgs false
namespace Go.Proofs.Ytbjeibcombjfgaa
open Go.RowKit

/-- the state of a tableau that is filled, rows and weights in turn: block p holds it, all else lies behind p -/
structure Fill2 (w0 w : World) (p : Nat) (va vb : Value) (vs : List Value) (rows : List (List Int)) (Bs : List Int) : Prop where
  blk : Blk w p 27 #[va, vb]
  own : Own w (p + 1) tL va vs
  rows : RowsOwn w (p + 1) w.heap.size tI vs rows
  ws : OwnInts w (p + 1) tI vb Bs
  ap : ∀ (k : Nat) (u : Value), vs[k]? = some u → Apart u vb
  below : Below w0.heap.size w0 w

section
variable {w0 w w' w1 : World} {p : Nat} {va vb v1 r : Value} {vs : List Value} {rows : List (List Int)} {zs Bs : List Int} {z : Int}
theorem Fill2.lt (h : Fill2 w0 w p va vb vs rows Bs) : p < w.heap.size := h.blk.lt
theorem Fill2.npA (h : Fill2 w0 w p va vb vs rows Bs) : va.ownBlock ≠ some p := fun e => by have := h.own.ge p e; omega
theorem Fill2.step (h : Fill2 w0 w p va vb vs rows Bs) (hb : Below w.heap.size w w') : Fill2 w0 w' p va vb vs rows Bs :=
  ⟨h.blk.below hb h.lt, h.own.below hb, (h.rows.below hb).mono (Nat.le_refl _) hb.size, h.ws.below hb, h.ap, h.below.trans (hb.mono h.below.size)⟩
end
end Go.Proofs.Ytbjeibcombjfgaa

set_option linter.unusedVariables false
set_option linter.unusedSimpArgs false
namespace Go.Proofs.Ytbjeibcombjfgaa
open Go.RowKit

/-- rows va and numbers vb of one's own, all made since N -/
structure Two (w : World) (N : Nat) (va vb : Value) (vs : List Value) (rows : List (List Int)) (Bs : List Int) : Prop where
  own : Own w N tL va vs
  rows : RowsOwn w N w.heap.size tI vs rows
  ws : OwnInts w N tI vb Bs
  ap : ∀ (k : Nat) (u : Value), vs[k]? = some u → Apart u vb

section
variable {w w' w1 : World} {N p q : Nat} {va vb v1 r : Value} {vs : List Value} {rows : List (List Int)} {zs Bs : List Int} {z : Int}
theorem Two.nil (w : World) (N : Nat) : Two w N (.slice none 0 0) (.slice none 0 0) [] [] [] :=
  ⟨Own.nil _ _ _, RowsOwn.nil _ _ _ _, OwnInts.nil _ _ _, fun k u hu => by simp at hu⟩
theorem Two.step (h : Two w N va vb vs rows Bs) (hb : Below w.heap.size w w') : Two w' N va vb vs rows Bs :=
  ⟨h.own.below hb, (h.rows.below hb).mono (Nat.le_refl _) hb.size, h.ws.below hb, h.ap⟩
theorem Two.kept (h : Two w N va vb vs rows Bs) (hc : Chg p q w w') (hq : q ≤ N) : Two w' N va vb vs rows Bs :=
  ⟨h.own.of_block fun b hb => hc.block b (h.own.lt b hb) (.inr (Nat.le_trans hq (h.own.ge b hb))), (h.rows.mono (Nat.le_refl _) hc.size).kept hc (.inr hq), ⟨h.ws.1.of_block fun b hb => hc.block b (h.ws.1.lt b hb) (.inr (Nat.le_trans hq (h.ws.1.ge b hb))), h.ws.2⟩, h.ap⟩
/-- the rows grow by a list r of one's own -/
theorem Two.addA (h : Two w N va vb vs rows Bs) (hr : OI w N w.heap.size tI r zs) (hap : ∀ (k : Nat) (u : Value), vs[k]? = some u → Apart u r) (hrb : Apart r vb)
    (hown : Own w1 N tL v1 (vs ++ [r])) (hgr : Grow w w1 va v1) : Two w1 N v1 vb (vs ++ [r]) (rows ++ [zs]) Bs := by
  have hs := hgr.1.size
  have hR := h.rows.snoc hr hap
  have hR3 := hR.other hgr.1 (fun j u hu => by
    have hj := (List.getElem?_eq_some_iff.1 hu).1
    have hx : (rows ++ [zs])[j]? = some ((rows ++ [zs])[j]'(by rw [← hR.1]; exact hj)) := List.getElem?_eq_getElem _
    exact Own.ne_of_type (hR.2.1 j u _ hu hx).1.1 h.own (by decide))
  have hw := h.ws.kept hgr.1 (Own.ne_of_type h.ws.1 h.own (by decide))
  refine ⟨hown, hR3.mono (Nat.le_refl _) hs, hw, ?_⟩
  intro k u hu
  by_cases hk : k < vs.length
  · rw [List.getElem?_append_left hk] at hu
    exact h.ap k u hu
  · have hj := (List.getElem?_eq_some_iff.1 hu).1
    simp at hj
    have : k = vs.length := by omega
    subst this
    simp at hu
    subst hu
    exact hrb
/-- the rows grow by a list that was made after all else -/
theorem Two.addA' (h : Two w N va vb vs rows Bs) (hb : Below w.heap.size w w') (hN : N ≤ w.heap.size) (ho : OwnInts w' w.heap.size tI r zs)
    (hown : Own w1 N tL v1 (vs ++ [r])) (hgr : Grow w' w1 va v1) : Two w1 N v1 vb (vs ++ [r]) (rows ++ [zs]) Bs := by
  refine (h.step hb).addA ⟨ho.mono hN, ho.1.lt⟩ (h.rows.apart (M := 0) (fun b hb => .inl (ho.1.ge b hb))) ?_ hown hgr
  unfold Apart
  cases hr : r.ownBlock with
  | none => exact .inl rfl
  | some b =>
    refine .inr fun e => ?_
    have h1 := ho.1.ge b hr
    have h2 := h.ws.1.lt b e.symm
    omega
theorem Two.npA (h : Two w N va vb vs rows Bs) (hp : p < N) : va.ownBlock ≠ some p := fun e => by have := h.own.ge p e; omega
end
section
variable {w0 w w' w1 : World} {p : Nat} {va vb v1 r : Value} {vs : List Value} {rows : List (List Int)} {zs Bs : List Int}
end
section
variable {w0 w w9 : World} {p : Nat} {va vb v6 v9 : Value} {vs : List Value} {rows : List (List Int)} {Bs : List Int}
theorem Fill2.two (h : Fill2 w0 w p va vb vs rows Bs) : Two w (p + 1) va vb vs rows Bs := ⟨h.own, h.rows, h.ws, h.ap⟩
end
end Go.Proofs.Ytbjeibcombjfgaa

