/- Plain: a tree made from its neighbours is the canonical list of the list that is made without sorting. | Walks: rooted, slices.MinFunc, freeForm of the program. | Walks: equality of lists and of lists of lists, of the library and of the reference. | Walks: isSuperfluous, the predicate of freeTreesOf, of the program. -/
import Derived.Test.YtdjhfeaimmpmhaaGreatZh7
import Derived.Test.YtdjhfeaimmpmhaaGreatZh9
import Derived.Test.YtdjhfeaimmpmhaaGreatZh1
set_option linter.unusedVariables false
set_option linter.unusedSimpArgs false
set_option maxRecDepth 100000
namespace Go.Proofs.YtdjhfeaimmpmhaaGreat

/-- the list of the tree with a root whose nodes are joined to others, its branches as they come -/
def rawO : Nat → List (List Nat) → Nat → Nat → Option (List Nat)
  | 0, _, _, _ => none
  | f + 1, near, root, fr => match near[root]? with
    | none => none
    | some ns => match mapO (fun n => rawO f near n (root + 1)) (ns.filter fun n => !Nat.beq (n + 1) fr) with
      | none => none
      | some bs => some (rootN bs)

theorem mapO_imp {α β : Type} {g g' : α → Option β} : ∀ {xs : List α} {ys : List β}, (∀ x ∈ xs, ∀ y, g x = some y → g' x = some y) → mapO g xs = some ys → mapO g' xs = some ys
  | [], ys, _, h => by simpa [mapO] using h
  | x :: xs, ys, hg, h => by
    obtain ⟨y, ys', rfl, hy, h'⟩ := mapO_cons h
    rw [mapO, hg x (by simp) y hy, mapO_imp (fun z hz => hg z (by simp [hz])) h']
theorem mapO_of {α β : Type} {g : α → Option β} : ∀ {xs : List α} {ys : List β}, ys.length = xs.length → (∀ (k : Nat) (x : α), xs[k]? = some x → ∃ y, ys[k]? = some y ∧ g x = some y) → mapO g xs = some ys
  | [], [], _, _ => rfl
  | [], _ :: _, h, _ => by simp at h
  | _ :: _, [], h, _ => by simp at h
  | x :: xs, y :: ys, hl, h => by
    obtain ⟨y', h1, h2⟩ := h 0 x (by simp)
    simp at h1; subst h1
    rw [mapO, h2, mapO_of (by simpa using hl) (fun k z hz => by simpa using h (k + 1) z (by simpa using hz))]
theorem mapO_ex {α β : Type} {g : α → Option β} : ∀ {xs : List α}, (∀ x ∈ xs, ∃ y, g x = some y) → ∃ ys, mapO g xs = some ys
  | [], _ => ⟨[], rfl⟩
  | x :: xs, h => by
    obtain ⟨y, hy⟩ := h x (by simp)
    obtain ⟨ys, hys⟩ := mapO_ex (xs := xs) fun z hz => h z (by simp [hz])
    exact ⟨y :: ys, by rw [mapO, hy, hys]⟩

theorem addLast_snoc (x : Nat) : ∀ (out : List (List Nat)) (b : List Nat), addLast x (out ++ [b]) = out ++ [b ++ [x]]
  | [], b => rfl
  | [a], b => rfl
  | a :: c :: out, b => by
    have := addLast_snoc x (c :: out) b
    rw [List.cons_append] at this
    rw [List.cons_append, List.cons_append, addLast, this]
    rfl
theorem brF_append : ∀ (out : List (List Nat)) (a c : List Nat), brF out (a ++ c) = match brF out a with
    | none => none
    | some o => brF o c
  | out, [], c => rfl
  | out, x :: a, c => by
    rw [List.cons_append, brF, brF]
    cases brStep out x with
    | none => rfl
    | some o => exact brF_append o a c
theorem brF_rest : ∀ (out : List (List Nat)) (b c : List Nat), (∀ l ∈ c, 1 ≤ l) → brF (out ++ [b]) (bump c) = some (out ++ [b ++ c])
  | out, b, [], _ => by simp [bump, brF]
  | out, b, x :: c, h => by
    obtain ⟨x', rfl⟩ : ∃ x', x = x' + 1 := ⟨x - 1, by have := h x (by simp); omega⟩
    rw [bump, brF]
    have hs : brStep (out ++ [b]) (x' + 1 + 1) = some (out ++ [b ++ [x' + 1]]) := by
      have := addLast_snoc (x' + 1) out b
      cases ho : out ++ [b] with
      | nil => simp at ho
      | cons a os => rw [ho] at this; rw [brStep, this]
    rw [hs]
    have := brF_rest out (b ++ [x' + 1]) c fun l hl => h l (by simp [hl])
    simpa using this
theorem lvlF_pos : ∀ {p : Nat} {t : List Nat}, lvlF p t = true → ∀ l ∈ t, 1 ≤ l
  | p, [], _ => by simp
  | p, x :: t, h => by
    rw [lvlF] at h
    cases h1 : Nat.ble 1 x with
    | false => rw [h1] at h; cases h
    | true =>
      cases h2 : Nat.ble x (p + 1) with
      | false => rw [h1, h2] at h; cases h
      | true =>
        rw [h1, h2] at h
        intro l hl
        rcases List.mem_cons.1 hl with rfl | hl
        · exact Nat.le_of_ble_eq_true h1
        · exact lvlF_pos h l hl
theorem lvl_cons {t : List Nat} (h : lvl t = true) : ∃ c, t = 0 :: c ∧ lvlF 0 c = true := by
  cases t with
  | nil => cases h
  | cons a c =>
    rw [lvl] at h
    cases h1 : Nat.beq a 0 with
    | false => rw [h1] at h; cases h
    | true => rw [h1] at h; have := Nat.eq_of_beq_eq_true h1; subst this; exact ⟨c, rfl, h⟩
theorem brF_bumps : ∀ (out bs : List (List Nat)), (∀ b ∈ bs, lvl b = true) → brF out (bumps bs) = some (out ++ bs)
  | out, [], _ => by simp [bumps, brF]
  | out, b :: bs, h => by
    obtain ⟨c, rfl, hc⟩ := lvl_cons (h b (by simp))
    rw [bumps, brF_append, bump, brF]
    have : brStep out (0 + 1) = some (out ++ [[0]]) := rfl
    rw [this]
    simp only
    rw [brF_rest out [0] c (lvlF_pos hc)]
    simp only
    rw [brF_bumps _ bs fun x hx => h x (by simp [hx])]
    simp
theorem brO_root {bs : List (List Nat)} (h : ∀ b ∈ bs, lvl b = true) : brO (rootN bs) = some bs := by
  rw [rootN, brO, brF_bumps [] bs h]; rfl
theorem lvlF_bump : ∀ {p : Nat} {t d : List Nat}, lvlF p t = true → (∀ q, lvlF q d = true) → lvlF (p + 1) (bump t ++ d) = true
  | p, [], d, _, hd => hd _
  | p, x :: t, d, h, hd => by
    rw [lvlF] at h
    cases h1 : Nat.ble 1 x with
    | false => rw [h1] at h; cases h
    | true =>
      cases h2 : Nat.ble x (p + 1) with
      | false => rw [h1, h2] at h; cases h
      | true =>
        rw [h1, h2] at h
        rw [bump, List.cons_append, lvlF, Nat.ble_eq_true_of_le (by omega), Nat.ble_eq_true_of_le (by have := Nat.le_of_ble_eq_true h2; omega)]
        exact lvlF_bump h hd
theorem lvlF_bumps : ∀ {bs : List (List Nat)}, (∀ b ∈ bs, lvl b = true) → ∀ q, lvlF q (bumps bs) = true
  | [], _, q => rfl
  | b :: bs, h, q => by
    obtain ⟨c, rfl, hc⟩ := lvl_cons (h b (by simp))
    rw [bumps, bump, List.cons_append, lvlF]
    simp only [Nat.zero_add, Nat.ble_eq_true_of_le (Nat.le_refl 1), Nat.ble_eq_true_of_le (show 1 ≤ q + 1 by omega), cond_true]
    exact lvlF_bump hc (lvlF_bumps fun x hx => h x (by simp [hx]))
theorem lvl_root {bs : List (List Nat)} (h : ∀ b ∈ bs, lvl b = true) : lvl (rootN bs) = true := by
  rw [rootN, lvl]; exact lvlF_bumps h 0

theorem canO_9 {t : List Nat} (ht : lvl t = true) (hl : t.length ≤ 8) : canO 8 t = canO 9 t := by
  have h := lev8 (p := fun t => match canO 8 t, canO 9 t with | some a, some b => eqN a b | _, _ => false) (by decide +kernel) ht hl
  cases h8 : canO 8 t with
  | none => rw [h8] at h; cases h
  | some a =>
    cases h9 : canO 9 t with
    | none => rw [h8, h9] at h; cases h
    | some b => rw [h8, h9] at h; rw [eqN_iff.1 h]
theorem canO_rootN {bs : List (List Nat)} {cs : List (List Nat)} (h : ∀ b ∈ bs, lvl b = true) (hm : mapO (canO 8) bs = some cs) : canO 9 (rootN bs) = some (rootN (srtD cs)) := by
  rw [canO, brO_root h]
  simp only
  rw [hm]

theorem len_bumps_mem {b : List Nat} {bs : List (List Nat)} (h : b ∈ bs) : b.length + 1 ≤ (rootN bs).length := by
  rw [rootN, List.length_cons, bumps_len]
  have := brLen_memb h
  omega
theorem tfO_raw : ∀ {f : Nat} {near : List (List Nat)} {root fr : Nat} {q : List Nat}, rawO f near root fr = some q → q.length ≤ 8 → lvl q = true ∧ tfO f near root fr = canO 9 q
  | 0, near, root, fr, q, h, _ => by cases h
  | f + 1, near, root, fr, q, h, h8 => by
    rw [rawO] at h
    rw [tfO]
    cases hn : near[root]? with
    | none => rw [hn] at h; cases h
    | some ns =>
      rw [hn] at h
      simp only at h ⊢
      cases hm : mapO (fun n => rawO f near n (root + 1)) (ns.filter fun n => !Nat.beq (n + 1) fr) with
      | none => rw [hm] at h; cases h
      | some raws =>
        rw [hm] at h
        simp only [Option.some.injEq] at h
        subst h
        have hall : ∀ b ∈ raws, lvl b = true ∧ b.length ≤ 8 ∧ ∃ x ∈ (ns.filter fun n => !Nat.beq (n + 1) fr), rawO f near x (root + 1) = some b := by
          intro b hb
          obtain ⟨x, hx, hxb⟩ := mapO_all hm b hb
          have hl := len_bumps_mem hb
          exact ⟨(tfO_raw hxb (by omega)).1, by omega, x, hx, hxb⟩
        have hlv : ∀ b ∈ raws, lvl b = true := fun b hb => (hall b hb).1
        refine ⟨lvl_root hlv, ?_⟩
        obtain ⟨cs, hcs⟩ := mapO_ex (g := canO 9) (xs := raws) fun b hb => by
          obtain ⟨r, hr, -, -⟩ := canO_8 (hall b hb).1 (hall b hb).2.1
          exact ⟨r, hr⟩
        have hm2 : mapO (fun n => tfO f near n (root + 1)) (ns.filter fun n => !Nat.beq (n + 1) fr) = some cs := by
          refine mapO_of (by rw [mapO_len hcs, mapO_len hm]) fun k x hx => ?_
          obtain ⟨b, hb, hxb⟩ := mapO_get hm k x hx
          obtain ⟨c, hc, hbc⟩ := mapO_get hcs k b hb
          have hbm := List.mem_of_getElem? hb
          exact ⟨c, hc, by rw [(tfO_raw hxb (hall b hbm).2.1).2, hbc]⟩
        rw [hm2]
        simp only
        have h1 : mapO (canO 8) raws = some cs := mapO_imp (fun b hb y hy => by rw [canO_9 (hall b hb).1 (hall b hb).2.1]; exact hy) hcs
        have hcl : ∀ c ∈ cs, lvl c = true ∧ canO 8 c = some c := by
          intro c hc
          obtain ⟨b, hb, hbc⟩ := mapO_all hcs c hc
          obtain ⟨r, hr, h2, h3⟩ := canO_8 (hall b hb).1 (hall b hb).2.1
          rw [hbc] at hr
          injection hr with hr
          subst hr
          exact ⟨h2, by rw [canO_9 h2 (by rw [canO_len hbc]; exact (hall b hb).2.1)]; exact h3⟩
        have h2 : mapO (canO 8) cs = some cs := mapO_of rfl fun k c hc => ⟨c, hc, (hcl c (List.mem_of_getElem? hc)).2⟩
        rw [canO_rootN hlv h1, canO_rootN (fun c hc => (hcl c hc).1) h2]
end Go.Proofs.YtdjhfeaimmpmhaaGreat

set_option maxRecDepth 100000
set_option linter.unusedVariables false
set_option linter.unusedSimpArgs false
namespace Go.Proofs.YtdjhfeaimmpmhaaGreat
open Go.RowKit

def isCanR (t : List Nat) : Bool := match canO 9 t with | none => false | some r => eqN r t
def okRoots (t : List Nat) : Bool := bif isCanR t then (List.range t.length).all fun n => match rawO 9 (nearN t) n 0 with | none => false | some q => Nat.ble q.length 8 else true
theorem okRoots_8 : (List.range 8).all (fun m => (levs m).all okRoots) = true := by decide +kernel
theorem roots_at {t : List Nat} (ht : lvl t = true) (hl : t.length ≤ 8) (hc : canO 9 t = some t) {n : Nat} (hn : n < t.length) : ∃ q r, rawO 9 (nearN t) n 0 = some q ∧ lvl q = true ∧ q.length ≤ 8 ∧ canO 9 q = some r ∧ tfO 9 (nearN t) n 0 = some r := by
  have h := lev8 okRoots_8 ht hl
  rw [okRoots, isCanR, hc] at h
  simp only [eqN_iff.2 rfl, cond_true, List.all_eq_true, List.mem_range] at h
  have h1 := h n hn
  cases hr : rawO 9 (nearN t) n 0 with
  | none => rw [hr] at h1; cases h1
  | some q =>
    rw [hr] at h1
    have h8 := Nat.le_of_ble_eq_true h1
    obtain ⟨h2, h3⟩ := tfO_raw hr h8
    obtain ⟨r, hq, -, -⟩ := canO_8 h2 h8
    exact ⟨q, r, rfl, h2, h8, hq, by rw [h3, hq]⟩
theorem rooted_ex {t c : List Nat} (hc : canO 9 t = some c) (ht : lvl t = true) (hl : t.length ≤ 8) : ∃ rs, rootedO t = some rs ∧ rs.length = t.length ∧ ∀ r ∈ rs, r.length ≤ 8 := by
  obtain ⟨r0, h1, h2, h3⟩ := canO_8 ht hl
  rw [hc] at h1; injection h1 with h1; subst h1
  have hlen := canO_len hc
  obtain ⟨rs, hrs⟩ := mapO_ex (g := fun n => tfO 9 (nearN c) n 0) (xs := List.range c.length) fun n hn => by
    obtain ⟨q, r, -, -, -, -, h⟩ := roots_at h2 (by omega) h3 (List.mem_range.1 hn)
    exact ⟨r, h⟩
  refine ⟨rs, by rw [rootedO, hc]; exact hrs, by rw [mapO_len hrs, List.length_range, hlen], fun r hr => ?_⟩
  obtain ⟨n, hn, hnr⟩ := mapO_all hrs r hr
  obtain ⟨q, r', -, -, h8, hq, h⟩ := roots_at h2 (by omega) h3 (List.mem_range.1 hn)
  rw [hnr] at h; injection h with h; subst h
  rw [canO_len hq]; exact h8

set_option maxHeartbeats 2000000 in
theorem i_rooted (w : World) (v : Value) (t : List Nat) (rs : List (List Nat)) (ha : Ints w v (up t)) (ht : lvl t = true) (h8 : t.length ≤ 8) (hl : ∀ l ∈ t, l ≤ 1000000) (hrs : rootedO t = some rs) :
    Calls Tryz.prog 120 #[v] w fun e w' => ∃ x, e = .returned x ∧ LL w' w.heap.size x (rs.map up) ∧ Below w.heap.size w w' := by
  obtain ⟨c, hc, hcl, hcc⟩ := canO_8 ht h8
  have hlen := canO_len hc
  have HC := Lib.hid hc
  have HA := Lib.hid ha
  have HL := Lib.hid hl
  have HCM := Lib.hid (show ∀ l ∈ c, l ≤ 1000000 from fun l hl => by have := canO_lt hc l hl; omega)
  have HRO := Lib.hid (fun n (hn : n < c.length) => roots_at hcl (by omega) hcc hn)
  have hrs' := hrs
  rw [rootedO, hc] at hrs'
  have HRS := Lib.hid (show mapO (fun n => tfO 9 (nearN c) n 0) (List.range c.length) = some rs from hrs')
  have HRL := Lib.hid (show rs.length = c.length from by rw [mapO_len hrs', List.length_range])
  have hc8 : c.length ≤ 8 := by omega
  obtain ⟨A, cc, rfl, l1, l2, -⟩ := ha.open_
  rw [up_len] at l1 HA ⊢
  clear ha hl hrs hrs' hc hcl hcc hlen
  go_enter Tryz.func120, Tryz.ntmps120
  go_wp2_with (first
    | (go_at_call 170; refine (i_canonical 9 _ _ t c HA.out HC.out (by omega) HL.out).mono ?_; rintro e w1 ⟨x1, rfl, ho1, hb1⟩; have HO1 := Lib.hid ho1; have HB1 := Lib.hid hb1; clear ho1 hb1)
    | (go_at_call 169; refine (i_nearOf _ _ c HO1.out.ints (by omega) HCM.out).mono ?_; rintro e w2 ⟨g, vn, es, ess, rfl, hnw, hnb, hb2⟩; have HN := Lib.hid (hnw.rows); have HNL := Lib.hid hnw.len'; have HNB := Lib.hid hnb; have HB2 := Lib.hid (HB1.out.trans (hb2.mono HB1.out.size)); clear hnw hnb hb2))
  have OL := Lib.hid (show Own (w2.alloc (.cells #[] tL)) w2.heap.size tL (.slice (some ⟨w2.heap.size, 0, none⟩) 0 0) [] from own_lit w2 tL [] (by simp [maxLen]))
  have HBL := Lib.hid (HB2.out.trans ((below1 w2 (.cells #[] tL)).mono HB2.out.size))
  go_loopw [4, 12] (fun o x wr => ∃ (j : Nat) (vs : List Value), j ≤ c.length ∧ x = .int .i64 j ∧ Own wr w2.heap.size tL o vs ∧ RR wr w.heap.size vs ((rs.take j).map up) ∧ Below w2.heap.size w2 wr ∧ Below w.heap.size w wr) (fun _ x _ => c.length - (intOf x).toNat)
  case atStart => exact ⟨0, [], Nat.zero_le _, rfl, OL.out, RR.nil _ _, below1 _ _, HBL.out⟩
  case round =>
    obtain ⟨j, vs, hj, rfl, hown, hrr, hbq, hbw⟩ := hrel
    clear OL HBL
    have HO := Lib.hid hown
    have HRR := Lib.hid hrr
    have HBQ := Lib.hid hbq
    have HBW := Lib.hid hbw
    by_cases hlt : j < c.length
    · obtain ⟨q, r, -, -, hq8, hqr, htf⟩ := HRO.out j hlt
      have hrl : r.length ≤ 8 := by rw [canO_len hqr]; exact hq8
      have hjr : (List.range c.length)[j]? = some j := by simp [hlt]
      obtain ⟨r', hr', htf'⟩ := mapO_get HRS.out j j hjr
      rw [htf] at htf'; injection htf' with htf'; subst htf'
      have hI := i_treeFrom 9 wr _ (nearN c) j 0 r (HN.out.below hbq) htf (by omega) (by rw [HNL.out]; omega) (by rw [HNL.out]; exact hlt) (by omega) (fun ns hns n hn => by rw [HNL.out]; exact (HNB.out ns hns).2 n hn)
      rw [show (((0 : Nat) : Int) - 1) = -1 from rfl] at hI
      have HI := Lib.hid hI
      have HTK := Lib.hid (show rs.take (j + 1) = rs.take j ++ [r] by rw [List.take_add_one, hr']; rfl)
      have hvl : vs.length ≤ 1000 := by have h1 := hrr.1; rw [List.length_map, List.length_take] at h1; omega
      have hji : (j : Int) < (c.length : Int) := by omega
      clear hown hrr hbq hbw hq8 hqr htf hjr hr' hI
      go_wp2_with (first
        | (go_at_call 171; refine HI.out.mono ?_; rintro e w3 ⟨r2, rfl, ho2, hb2⟩; obtain ⟨A5, c5, he5, -, -, -⟩ := ho2.ints.open_; rw [up_len] at he5; subst he5; have HO2 := Lib.hid (ho2.mono HBW.out.size); have HBI := Lib.hid hb2; have HB3 := Lib.hid (HBW.out.trans (hb2.mono HBW.out.size)); have HOW := Lib.hid (HO.out.below hb2); clear ho2 hb2)
        | (at_builtin; refine wpList_app1 T_row HOW.out (by omega) (Nat.le_trans HBQ.out.size HBI.out.size) (by rfl) rfl (by rfl) (by rfl) (by rfl) ?_; intro v1 w5 hown1 hgr1; have HN1 := Lib.hid hown1; have HGR := Lib.hid hgr1.1; have HQ5 := Lib.hid (hgr1.below (HBQ.out.trans (HBI.out.mono HBQ.out.size)) (Nat.le_trans HBQ.out.size HBI.out.size) HOW.out.ge); have HB5 := Lib.hid (HB2.out.trans (HQ5.out.mono HB2.out.size)); clear hown1 hgr1))
      go_roundw
      case rel =>
        refine ⟨j + 1, _, by omega, by go_num, HN1.out, ?_, HQ5.out, HB5.out⟩
        rw [HTK.out, List.map_append]
        exact LL.snoc (HOW.out.mono HB2.out.size) (HRR.out.below HBI.out) HO2.out (HN1.out.mono HB2.out.size) HGR.out
      case measure => simp [intOf]; omega
    · have : j = c.length := by omega
      subst this
      rw [← HRL.out, List.take_length] at HRR
      go_wp2_with fail
      go_ret
      exact ⟨_, rfl, ⟨vs, HO.out.mono HB2.out.size, HRR.out⟩, HBW.out⟩

theorem minT_snoc : ∀ (m : List Nat) (ts : List (List Nat)) (t : List Nat), minT m (ts ++ [t]) = bif befN t (minT m ts) then t else minT m ts
  | m, [], t => by simp [minT]
  | m, x :: ts, t => by
    rw [List.cons_append, minT, minT]
    cases befN x m with
    | true => exact minT_snoc x ts t
    | false => exact minT_snoc m ts t

set_option maxHeartbeats 2000000 in
theorem lib_MinTrees (w : World) (B : Nat) (v : Value) (r : List Nat) (rs : List (List Nat)) (ha : LL w B v ((r :: rs).map up)) (hn : rs.length ≤ 1000) :
    Calls Tryz.prog 119 #[v, .func (.func 118) #[] #[]] w fun e w' => ∃ x, e = .returned x ∧ OwnInts w B tI x (up (minT r rs)) ∧ w = w' := by
  obtain ⟨vs, hown, hrr⟩ := ha
  have hvl : vs.length = rs.length + 1 := by rw [hrr.1]; simp
  obtain ⟨A, c, rfl, l1, l2⟩ := hown.cells.open_
  rw [hvl] at hown l1 ⊢
  have HO := Lib.hid hown
  have HRR := Lib.hid hrr
  obtain ⟨g, rfl⟩ : ∃ g, A = some ⟨g, 0, none⟩ := by
    rcases hown.cases with ⟨he, hv⟩ | ⟨g, cap, cur, he, -⟩
    · rw [hv] at hvl; simp at hvl
    · simp only [Value.slice.injEq] at he
      exact ⟨g, he.1⟩
  have hrow : ∀ k, k < rs.length + 1 → ∃ u, w.cell? ⟨g, k, none⟩ = some u ∧ vs[k]? = some u := by
    intro k hk
    have hu : vs[k]? = some (vs[k]'(by omega)) := List.getElem?_eq_getElem _
    obtain ⟨ad, n', c', he, hc⟩ := hown.cells.at_ hu
    simp only [Value.slice.injEq, Option.some.injEq] at he
    obtain ⟨rfl, -, -⟩ := he
    rw [addr_add] at hc
    exact ⟨_, hc, hu⟩
  have HROW := Lib.hid hrow
  obtain ⟨u0, hc0, hu0⟩ := hrow 0 (by omega)
  have h0 := hrr.2 0 u0 (up r) hu0 rfl
  obtain ⟨A0, cc0, he0, -, -, -⟩ := h0.ints.open_
  rw [up_len] at he0
  subst he0
  have H0 := Lib.hid h0
  have hd1 : ¬ (((rs.length : Int) + 1) < 1) := by omega
  have hd2 : decide (((rs.length : Int) + 1) < 1) = false := by simp; omega
  have hpos : (0 : Int) < (rs.length : Int) + 1 := by omega
  clear hown hrr hrow h0 hu0 hvl
  go_enter Tryz.func119, Tryz.ntmps119
  go_wp2_with fail
  go_loopw [5, 6] (fun mv x wr => ∃ i : Nat, i ≤ rs.length ∧ x = .int .i64 ((i : Int) + 1) ∧ OwnInts w B tI mv (up (minT r (rs.take i))) ∧ w = wr) (fun _ x _ => rs.length + 1 - (intOf x).toNat)
  case atStart => exact ⟨0, Nat.zero_le _, rfl, by simpa [minT] using H0.out, rfl⟩
  case round =>
    obtain ⟨i, hi, rfl, hm, rfl⟩ := hrel
    clear H0
    have HM := Lib.hid hm
    by_cases hlt : i < rs.length
    · obtain ⟨u, hc, hu⟩ := HROW.out (i + 1) (by omega)
      have hq : rs[i]? = some (rs[i]'hlt) := List.getElem?_eq_getElem _
      have hr1 := HRR.out.2 (i + 1) u (up (rs[i]'hlt)) hu (by rw [List.getElem?_map, List.getElem?_cons_succ, hq]; rfl)
      obtain ⟨A5, c5, he5, -, -, -⟩ := hr1.ints.open_
      rw [up_len] at he5
      subst he5
      have hsn : minT r (rs.take (i + 1)) = bif befN (rs[i]'hlt) (minT r (rs.take i)) then rs[i]'hlt else minT r (rs.take i) := by
        rw [List.take_add_one, hq]; exact minT_snoc _ _ _
      have hii : (i : Int) + 1 < (rs.length : Int) + 1 := by omega
      have hi0 : (0 : Int) ≤ (i : Int) + 1 := by omega
      have hw1 : IntKind.i64.wrap ((i : Int) + 1 + 1) = (i : Int) + 1 + 1 := IntWalk.i64_in _ (by omega)
      have hcm := cmpT_up (rs[i]'hlt) (minT r (rs.take i))
      have hct := i_compareTrees w _ _ _ _ hr1.ints hm.ints
      generalize cmpT (up (rs[i]'hlt)) (up (minT r (rs.take i))) = z at hcm hct
      generalize rs[i]'hlt = q at hr1 hsn hc hcm hct
      obtain ⟨A6, c6, he6, -, -, -⟩ := hm.ints.open_
      rw [up_len] at he6
      subst he6
      have HCT := Lib.hid hct
      have HR1 := Lib.hid hr1
      clear hm hu hq hr1 hct hc0
      cases hb : befN q (minT r (rs.take i)) with
      | true =>
        rw [hb] at hsn hcm
        have HSN := Lib.hid hsn
        have hz : z < 0 := by simpa using hcm
        clear hsn hb
        go_wp2_with (go_at_call 118; refine HCT.out.mono ?_; rintro e w1 ⟨rfl, rfl⟩)
        go_roundw
        case rel => exact ⟨i + 1, by omega, by go_num, by rw [HSN.out]; exact HR1.out, by first | rfl | trivial⟩
        case measure => simp [intOf]; omega
      | false =>
        rw [hb] at hsn hcm
        have HSN := Lib.hid hsn
        have hz : ¬ (z < 0) := by simpa using hcm
        clear hsn hb
        go_wp2_with (go_at_call 118; refine HCT.out.mono ?_; rintro e w1 ⟨rfl, rfl⟩)
        go_roundw
        case rel => exact ⟨i + 1, by omega, by go_num, by rw [HSN.out]; exact HM.out, by first | rfl | trivial⟩
        case measure => simp [intOf]; omega
    · have hin : i = rs.length := by omega
      have HE := Lib.hid (show minT r (rs.take i) = minT r rs from by rw [hin, List.take_length])
      have hii : ¬ ((i : Int) + 1 < (rs.length : Int) + 1) := by omega
      clear hin hc0
      go_wp2_with fail
      go_ret
      exact ⟨_, rfl, by rw [← HE.out]; exact HM.out, rfl⟩

theorem freeO_ex {t : List Nat} (ht : lvl t = true) (hl : t.length ≤ 8) : ∃ r rs, rootedO t = some (r :: rs) ∧ freeO t = some (minT r rs) ∧ rs.length ≤ 8 ∧ ∀ q ∈ r :: rs, q.length ≤ 8 := by
  obtain ⟨c, hc, -, -⟩ := canO_8 ht hl
  obtain ⟨rs, h1, h2, h3⟩ := rooted_ex hc ht hl
  cases rs with
  | nil => obtain ⟨d, rfl, -⟩ := lvl_cons ht; simp at h2
  | cons r rs => exact ⟨r, rs, h1, by rw [freeO, h1], by simp at h2; omega, h3⟩

theorem i_freeForm (w : World) (v : Value) (t r : List Nat) (ha : Ints w v (up t)) (ht : lvl t = true) (h8 : t.length ≤ 8) (hl : ∀ l ∈ t, l ≤ 1000000) (hr : freeO t = some r) :
    Calls Tryz.prog 58 #[v] w fun e w' => ∃ x, e = .returned x ∧ OwnInts w' w.heap.size tI x (up r) ∧ Below w.heap.size w w' := by
  obtain ⟨r0, rs, h1, h2, h3, -⟩ := freeO_ex ht h8
  have HE := Lib.hid (show minT r0 rs = r from by rw [h2] at hr; injection hr)
  have HR := Lib.hid (i_rooted w v t (r0 :: rs) ha ht h8 hl h1)
  obtain ⟨A, cc, rfl, -, -, -⟩ := ha.open_
  rw [up_len] at HR ⊢
  clear ha h1 h2 hr
  go_enter Tryz.func58, Tryz.ntmps58
  go_wp2_with (first
    | (go_at_call 120; refine HR.out.mono ?_; rintro e w1 ⟨x1, rfl, hll, hb1⟩; have HLL := Lib.hid hll; have HB1 := Lib.hid hb1; clear hll hb1)
    | (go_at_call 119; refine (lib_MinTrees _ _ _ r0 rs HLL.out (by omega)).mono ?_; rintro e w2 ⟨x2, rfl, ho2, rfl⟩; have HO2 := Lib.hid ho2; clear ho2))
  go_ret
  exact ⟨_, rfl, by rw [← HE.out]; exact HO2.out, HB1.out⟩
end Go.Proofs.YtdjhfeaimmpmhaaGreat

set_option maxRecDepth 100000
set_option linter.unusedVariables false
set_option linter.unusedSimpArgs false
namespace Go.Proofs.YtdjhfeaimmpmhaaGreat
open Go.RowKit

set_option maxHeartbeats 400000 in
theorem s_l01Same (w : World) (a b : Value) (xs ys : List Int) (ha : Ints w a xs) (hb : Ints w b ys) :
    Calls Tryz.prog 135 #[a, b] w fun e w' => e = .returned (.bool (decide (xs = ys))) ∧ ∃ n, w' = w.drewN n := by
  obtain ⟨A, c, rfl, h1, h2, h3⟩ := ha.open_
  obtain ⟨B, d, rfl, g1, g2, g3⟩ := hb.open_
  clear ha hb
  have H3 := Lib.hid h3
  have G3 := Lib.hid g3
  clear h3 g3
  by_cases hl : xs.length = ys.length
  · have hl' : (((xs.length : Nat) : Int) != ((ys.length : Nat) : Int)) = false := by simp [hl]
    have HL := Lib.hid hl
    clear hl
    have g4 : ys.length ≤ xs.length := by rw [HL.out]; omega
    have g5 : xs.length ≤ ys.length := by rw [HL.out]; omega
    go_enter Tryz.func135, Tryz.ntmps135
    go_wp2
    go_loopw [5] (fun i wr => ∃ k n : Nat, k ≤ xs.length ∧ i = .int .i64 k ∧ xs.take k = ys.take k ∧ wr = w.drewN n) (fun i _ => xs.length - (intOf i).toNat)
    case atStart => exact ⟨0, 0, Nat.zero_le _, rfl, rfl, rfl⟩
    case round =>
      obtain ⟨k, n, hk, rfl, ht, rfl⟩ := hrel
      have HT := Lib.hid ht
      clear ht
      by_cases hlt : k < xs.length
      · obtain ⟨ad, z, rfl, hz, hz2, hc⟩ := H3.out k hlt
        obtain ⟨ad', y, rfl, hy, hy2, hc'⟩ := G3.out k (by omega)
        have HZ := Lib.hid hz
        have HY := Lib.hid hy
        clear hz hy hz2 hy2
        go_wp2
        go_quiet (fail)
        go_wp2
        · have hne : (z != y) = true := by assumption
          go_ret
          refine ⟨ret_bool ?_, _, World.drewN_drewN _ _ _⟩
          symm
          simp only [decide_eq_false_iff_not]
          rintro rfl
          have := HZ.out.symm.trans HY.out
          simp at this hne
          exact hne this
        · have hne : (z != y) = false := by assumption
          go_roundw
          case rel => exact ⟨k + 1, _, by omega, by go_num, take_eq_succ HT.out HZ.out HY.out (by simpa using hne), rfl⟩
          case measure => simp [intOf]; omega
      · have : k = xs.length := by omega
        subst this
        go_wp2
        go_ret
        refine ⟨ret_bool ?_, _, rfl⟩
        have e := HT.out
        rw [List.take_length, List.take_of_length_le (by omega)] at e
        simp [e]
  · have hl' : (((xs.length : Nat) : Int) != ((ys.length : Nat) : Int)) = true := by simp; omega
    have HL := Lib.hid hl
    clear hl
    go_enter Tryz.func135, Tryz.ntmps135
    go_wp2
    go_ret
    refine ⟨ret_bool ?_, 0, rfl⟩
    have := HL.out
    symm
    simp only [decide_eq_false_iff_not]
    rintro rfl
    exact this rfl

set_option maxHeartbeats 400000 in
theorem lib_Equal (w : World) (a b : Value) (xs ys : List Int) (ha : Ints w a xs) (hb : Ints w b ys) :
    Calls Tryz.prog 83 #[a, b] w fun e w' => e = .returned (.bool (decide (xs = ys))) ∧ ∃ n, w' = w.drewN n := by
  obtain ⟨A, c, rfl, h1, h2, h3⟩ := ha.open_
  obtain ⟨B, d, rfl, g1, g2, g3⟩ := hb.open_
  clear ha hb
  have H3 := Lib.hid h3
  have G3 := Lib.hid g3
  clear h3 g3
  by_cases hl : xs.length = ys.length
  · have hl' : (((xs.length : Nat) : Int) != ((ys.length : Nat) : Int)) = false := by simp [hl]
    have HL := Lib.hid hl
    clear hl
    have g4 : ys.length ≤ xs.length := by rw [HL.out]; omega
    have g5 : xs.length ≤ ys.length := by rw [HL.out]; omega
    go_enter Tryz.func83, Tryz.ntmps83
    go_wp2
    go_loopw [13] (fun i wr => ∃ k n : Nat, k ≤ xs.length ∧ i = .int .i64 k ∧ xs.take k = ys.take k ∧ wr = w.drewN n) (fun i _ => xs.length - (intOf i).toNat)
    case atStart => exact ⟨0, 0, Nat.zero_le _, rfl, rfl, rfl⟩
    case round =>
      obtain ⟨k, n, hk, rfl, ht, rfl⟩ := hrel
      have HT := Lib.hid ht
      clear ht
      by_cases hlt : k < xs.length
      · obtain ⟨ad, z, rfl, hz, hz2, hc⟩ := H3.out k hlt
        obtain ⟨ad', y, rfl, hy, hy2, hc'⟩ := G3.out k (by omega)
        have HZ := Lib.hid hz
        have HY := Lib.hid hy
        clear hz hy hz2 hy2
        go_wp2
        go_quiet (fail)
        go_wp2
        · have hne : (z != y) = true := by assumption
          go_ret
          refine ⟨ret_bool ?_, _, World.drewN_drewN _ _ _⟩
          symm
          simp only [decide_eq_false_iff_not]
          rintro rfl
          have := HZ.out.symm.trans HY.out
          simp at this hne
          exact hne this
        · have hne : (z != y) = false := by assumption
          go_roundw
          case rel => exact ⟨k + 1, _, by omega, by go_num, take_eq_succ HT.out HZ.out HY.out (by simpa using hne), rfl⟩
          case measure => simp [intOf]; omega
      · have : k = xs.length := by omega
        subst this
        go_wp2
        go_ret
        refine ⟨ret_bool ?_, _, rfl⟩
        have e := HT.out
        rw [List.take_length, List.take_of_length_le (by omega)] at e
        simp [e]
  · have hl' : (((xs.length : Nat) : Int) != ((ys.length : Nat) : Int)) = true := by simp; omega
    have HL := Lib.hid hl
    clear hl
    go_enter Tryz.func83, Tryz.ntmps83
    go_wp2
    go_ret
    refine ⟨ret_bool ?_, 0, rfl⟩
    have := HL.out
    symm
    simp only [decide_eq_false_iff_not]
    rintro rfl
    exact this rfl

end Go.Proofs.YtdjhfeaimmpmhaaGreat

set_option maxRecDepth 100000
set_option linter.unusedVariables false
set_option linter.unusedSimpArgs false
namespace Go.Proofs.YtdjhfeaimmpmhaaGreat
open Go.RowKit

def eqO : Option (List Nat) → Option (List Nat) → Bool
  | some a, some b => eqN a b
  | _, _ => false
/-- is the edge above a node one between equal halves? -/
def supAt (c : List Nat) (i : Nat) : Bool := match parN c (c.getD i 0) i with
  | 0 => false
  | k + 1 => eqO (tfO 9 (nearN c) i (k + 1)) (tfO 9 (nearN c) k (i + 1))
def supB (c : List Nat) : Bool := (List.range c.length).any (supAt c)
def okHalf (t : List Nat) : Bool := bif isCanR t then (List.range t.length).all fun i => match parN t (t.getD i 0) i with
    | 0 => true
    | k + 1 => match rawO 9 (nearN t) i (k + 1), rawO 9 (nearN t) k (i + 1) with
      | some q, some q' => Nat.ble q.length 8 && Nat.ble q'.length 8
      | _, _ => false
  else true
theorem okHalf_8 : (List.range 8).all (fun m => (levs m).all okHalf) = true := by decide +kernel
theorem half_at {t : List Nat} (ht : lvl t = true) (hl : t.length ≤ 8) (hc : canO 9 t = some t) {i k : Nat} (hi : i < t.length) (hk : parN t (t.getD i 0) i = k + 1) :
    ∃ r r', tfO 9 (nearN t) i (k + 1) = some r ∧ tfO 9 (nearN t) k (i + 1) = some r' ∧ r.length ≤ 8 ∧ r'.length ≤ 8 ∧ supAt t i = decide (r = r') := by
  have h := lev8 okHalf_8 ht hl
  rw [okHalf, isCanR, hc] at h
  simp only [eqN_iff.2 rfl, cond_true, List.all_eq_true, List.mem_range] at h
  have h1 := h i hi
  rw [hk] at h1
  simp only at h1
  cases hq : rawO 9 (nearN t) i (k + 1) with
  | none => rw [hq] at h1; cases h1
  | some q =>
    cases hq' : rawO 9 (nearN t) k (i + 1) with
    | none => rw [hq, hq'] at h1; cases h1
    | some q' =>
      rw [hq, hq'] at h1
      simp only [Bool.and_eq_true] at h1
      have a1 := Nat.le_of_ble_eq_true h1.1
      have a2 := Nat.le_of_ble_eq_true h1.2
      obtain ⟨b1, b2⟩ := tfO_raw hq a1
      obtain ⟨c1, c2⟩ := tfO_raw hq' a2
      obtain ⟨r, hr, -, -⟩ := canO_8 b1 a1
      obtain ⟨r', hr', -, -⟩ := canO_8 c1 a2
      refine ⟨r, r', by rw [b2, hr], by rw [c2, hr'], by rw [canO_len hr]; exact a1, by rw [canO_len hr']; exact a2, ?_⟩
      unfold supAt
      rw [hk]
      simp only
      rw [b2, hr, c2, hr']
      by_cases e : r = r'
      · rw [eqO, eqN_iff.2 e]; exact (decide_eq_true e).symm
      · have : eqN r r' = false := by
          cases hh : eqN r r' with
          | true => exact absurd (eqN_iff.1 hh) e
          | false => rfl
        rw [eqO, this]; exact (decide_eq_false e).symm

set_option maxHeartbeats 4000000 in
theorem i_isSuperfluous (w : World) (v : Value) (t c : List Nat) (ha : Ints w v (up t)) (h8 : t.length ≤ 8) (hl : ∀ l ∈ t, l ≤ 1000000) (hc : canO 9 t = some c) (hcl : lvl c = true) (hcc : canO 9 c = some c) :
    Calls Tryz.prog 166 #[v] w fun e w' => e = .returned (.bool (supB c)) ∧ Below w.heap.size w w' := by
  have hlen := canO_len hc
  have HC := Lib.hid hc
  have HA := Lib.hid ha
  have HL := Lib.hid hl
  have HCM := Lib.hid (show ∀ l ∈ c, l ≤ 1000000 from fun l hl => by have := canO_lt hc l hl; omega)
  have HHA := Lib.hid (fun i k (hi : i < c.length) hk => half_at hcl (by omega) hcc (i := i) (k := k) hi hk)
  have hc8 : c.length ≤ 8 := by omega
  obtain ⟨A, cc, rfl, l1, l2, -⟩ := ha.open_
  rw [up_len] at l1 HA ⊢
  clear ha hl hc hcl hcc hlen
  go_enter Tryz.func166, Tryz.ntmps166
  go_wp2_with (first
    | (go_at_call 170; refine (i_canonical 9 _ _ t c HA.out HC.out (by omega) HL.out).mono ?_; rintro e w1 ⟨x1, rfl, ho1, hb1⟩; obtain ⟨A1, c1, he1, -, -, -⟩ := ho1.ints.open_; rw [up_len] at he1; subst he1; have HO1 := Lib.hid ho1; have HB1 := Lib.hid hb1; clear ho1 hb1)
    | (go_at_call 169; refine (i_nearOf _ _ c HO1.out.ints (by omega) HCM.out).mono ?_; rintro e w2 ⟨g, vn, es, ess, rfl, hnw, hnb, hb2⟩; have HN := Lib.hid (hnw.rows); have HNL := Lib.hid hnw.len'; have HNB := Lib.hid hnb; have HO2 := Lib.hid (HO1.out.below hb2); have HB2 := Lib.hid (HB1.out.trans (hb2.mono HB1.out.size)); clear hnw hnb hb2)
    | (go_at_call 201; refine (i_parentsOf _ _ c HO2.out.ints (by omega) HCM.out).mono ?_; rintro e w3 ⟨x3, rfl, ho3, hb3⟩; obtain ⟨A3, c3, he3, -, -, hp3⟩ := ho3.ints.open_; rw [pzTo_len] at he3 hp3; subst he3; have HP := Lib.hid hp3; have HN3 := Lib.hid (HN.out.below hb3); have HB3 := Lib.hid (HB2.out.trans (hb3.mono HB2.out.size)); clear ho3 hb3 hp3))
  go_loopw [13] (fun x wr => ∃ j : Nat, j ≤ c.length ∧ x = .int .i64 j ∧ Hid (∀ i, i < j → supAt c i = false) ∧ Below w3.heap.size w3 wr) (fun x _ => c.length - (intOf x).toNat)
  case atStart => exact ⟨0, Nat.zero_le _, rfl, fun i h => by omega, Below.refl _ _⟩
  case round =>
    obtain ⟨j, hj, rfl, HF, hb⟩ := hrel
    have HB := Lib.hid hb
    clear hb
    by_cases hlt : j < c.length
    · obtain ⟨ap, zp, rfl, hzp, -, hcp0⟩ := HP.out j hlt
      have hcp : wr.cell? (ap.add j) = some (.int .i64 zp) := by
        rw [HB.out.cell (by rw [block_add]; have := World.block_lt_of_cell? w3 _ hcp0; rwa [block_add] at this)]; exact hcp0
      rw [pzTo_get hlt] at hzp
      injection hzp with hzp
      have hha := fun k => HHA.out j k hlt
      have hPj := parN_le c (c.getD j 0) j
      have hs0 : parN c (c.getD j 0) j = 0 → supAt c j = false := fun h => by unfold supAt; rw [h]
      generalize parN c (c.getD j 0) j = P at hzp hha hPj hs0
      have hji : (j : Int) < (c.length : Int) := by omega
      clear hcp0
      cases P with
      | zero =>
        have hz1 : zp = -1 := by omega
        subst hz1
        have HS0 := Lib.hid (hs0 rfl)
        clear hha hs0
        go_wp2_with fail
        go_roundw
        case rel =>
          refine ⟨j + 1, by omega, by go_num, fun i hi => ?_, HB.out⟩
          by_cases e : i = j
          · subst e; exact HS0.out
          · exact HF.out i (by omega)
        case measure => simp [intOf]; omega
      | succ k =>
        have hz1 : zp = (k : Int) := by omega
        subst hz1
        obtain ⟨r, r', h1, h2, h3, h4, h5⟩ := hha k rfl
        have hkc : k < c.length := by omega
        have hk0 : (0 : Int) ≤ (k : Int) := by omega
        have hkd : decide ((0 : Int) ≤ (k : Int)) = true := by simp
        have hI1 := fun W (hW : Below w3.heap.size w3 W) => i_treeFrom 9 W _ (nearN c) j (k + 1) r (HN3.out.below hW) h1 (by omega) (by rw [HNL.out]; omega) (by rw [HNL.out]; exact hlt) (by omega) (fun ns hns n hn => by rw [HNL.out]; exact (HNB.out ns hns).2 n hn)
        have hI2 := fun W (hW : Below w3.heap.size w3 W) => i_treeFrom 9 W _ (nearN c) k (j + 1) r' (HN3.out.below hW) h2 (by omega) (by rw [HNL.out]; omega) (by rw [HNL.out]; exact hkc) (by omega) (fun ns hns n hn => by rw [HNL.out]; exact (HNB.out ns hns).2 n hn)
        simp only [show (((k + 1 : Nat) : Int) - 1) = (k : Int) from by omega, HNL.out] at hI1
        simp only [show (((j + 1 : Nat) : Int) - 1) = (j : Int) from by omega, HNL.out] at hI2
        have HI1 := Lib.hid hI1
        have HI2 := Lib.hid hI2
        have HS := Lib.hid h5
        clear hha hs0 h1 h2 h5 hI1 hI2
        have arms : True := trivial
        by_cases hrr : r = r'
        · have HE := Lib.hid (show supB c = true from by
            unfold supB
            rw [List.any_eq_true]
            exact ⟨j, List.mem_range.2 hlt, by rw [HS.out]; exact decide_eq_true hrr⟩)
          have HRR := Lib.hid (show decide (up r = up r') = true from decide_eq_true (by rw [hrr]))
          clear hrr
          go_wp2_with (first
            | (have hgo := HO4; clear hgo; go_at_call 171; refine (HI2.out _ HB4.out).mono ?_; rintro e w5 ⟨x5, rfl, ho5, hb5⟩; have HO5 := Lib.hid ho5; have HO45 := Lib.hid (HO4.out.below hb5); have HB5 := Lib.hid (HB4.out.trans (hb5.mono HB4.out.size)); clear ho5 hb5)
            | (go_at_call 83; refine (lib_Equal _ _ _ (up r) (up r') HO45.out.ints HO5.out.ints).mono ?_; rintro e w6 ⟨rfl, n6, rfl⟩; rw [HRR.out])
            | (go_at_call 171; refine (HI1.out _ HB.out).mono ?_; rintro e w4 ⟨x4, rfl, ho4, hb4⟩; have HO4 := Lib.hid ho4; have HB4 := Lib.hid (HB.out.trans (hb4.mono HB.out.size)); clear ho4 hb4))
          go_ret
          exact ⟨ret_bool HE.out.symm, HB3.out.trans (below_drewN (HB5.out.mono HB3.out.size) n6)⟩
        · have HS2 := Lib.hid (show supAt c j = false from by rw [HS.out]; exact decide_eq_false hrr)
          have HRR := Lib.hid (show decide (up r = up r') = false from decide_eq_false (fun h => hrr (up_inj h)))
          clear hrr
          go_wp2_with (first
            | (have hgo := HO4; clear hgo; go_at_call 171; refine (HI2.out _ HB4.out).mono ?_; rintro e w5 ⟨x5, rfl, ho5, hb5⟩; have HO5 := Lib.hid ho5; have HO45 := Lib.hid (HO4.out.below hb5); have HB5 := Lib.hid (HB4.out.trans (hb5.mono HB4.out.size)); clear ho5 hb5)
            | (go_at_call 83; refine (lib_Equal _ _ _ (up r) (up r') HO45.out.ints HO5.out.ints).mono ?_; rintro e w6 ⟨rfl, n6, rfl⟩; rw [HRR.out])
            | (go_at_call 171; refine (HI1.out _ HB.out).mono ?_; rintro e w4 ⟨x4, rfl, ho4, hb4⟩; have HO4 := Lib.hid ho4; have HB4 := Lib.hid (HB.out.trans (hb4.mono HB.out.size)); clear ho4 hb4))
          go_roundw
          case rel =>
            refine ⟨j + 1, by omega, by go_num, fun i hi => ?_, below_drewN HB5.out n6⟩
            by_cases e : i = j
            · subst e; exact HS2.out
            · exact HF.out i (by omega)
          case measure => simp [intOf]; omega
    · have : j = c.length := by omega
      subst this
      have HE := Lib.hid (show supB c = false from by
        unfold supB
        rw [List.any_eq_false]
        intro i hi
        rw [HF.out i (List.mem_range.1 hi)]
        decide)
      go_wp2_with fail
      go_ret
      exact ⟨ret_bool HE.out.symm, HB3.out.trans (HB.out.mono HB3.out.size)⟩
end Go.Proofs.YtdjhfeaimmpmhaaGreat

