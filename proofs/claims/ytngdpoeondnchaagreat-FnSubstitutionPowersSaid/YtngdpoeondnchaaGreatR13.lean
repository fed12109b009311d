/- Plain: a tree made from its neighbours is the canonical list of the list that is made without sorting. | Walks: rooted, slices.MinFunc, freeForm of the program. | Walks: equality of lists and of lists of lists, of the library and of the reference. | Walks: isSuperfluous, the predicate of freeTreesOf, of the program. | Walks: slices.BinarySearchFunc at trees, indexIn of the program; l03Find of the reference. -/
import Derived.Test.YtngdpoeondnchaaGreatR9
import Derived.Test.YtngdpoeondnchaaGreatR12
import Derived.Test.YtngdpoeondnchaaGreatR1
import Derived.Test.YtngdpoeondnchaaGreatR2
set_option linter.unusedVariables false
set_option linter.unusedSimpArgs false
set_option maxRecDepth 100000
namespace Go.Proofs.YtngdpoeondnchaaGreat

/-- the list of the tree with a root whose nodes are joined to others, its branches as they come -/
def rawO : Nat → List (List Nat) → Nat → Nat → Option (List Nat)
  | 0, _, _, _ => none
  | f + 1, near, root, fr => match near[root]? with
    | none => none
    | some ns => match mapO (fun n => rawO f near n (root + 1)) (ns.filter fun n => !Nat.beq (n + 1) fr) with
      | none => none
      | some bs => some (rootN bs)

theorem mapO_imp {α β : Type} {g g' : α → Option β} : ∀ {xs : List α} {ys : List β}, (∀ x ∈ xs, ∀ y, g x = some y → g' x = some y) → mapO g xs = some ys → mapO g' xs = some ys
  | [], ys, _, h => by simpa [mapO] using h
  | x :: xs, ys, hg, h => by
    obtain ⟨y, ys', rfl, hy, h'⟩ := mapO_cons h
    rw [mapO, hg x (by simp) y hy, mapO_imp (fun z hz => hg z (by simp [hz])) h']
theorem mapO_of {α β : Type} {g : α → Option β} : ∀ {xs : List α} {ys : List β}, ys.length = xs.length → (∀ (k : Nat) (x : α), xs[k]? = some x → ∃ y, ys[k]? = some y ∧ g x = some y) → mapO g xs = some ys
  | [], [], _, _ => rfl
  | [], _ :: _, h, _ => by simp at h
  | _ :: _, [], h, _ => by simp at h
  | x :: xs, y :: ys, hl, h => by
    obtain ⟨y', h1, h2⟩ := h 0 x (by simp)
    simp at h1; subst h1
    rw [mapO, h2, mapO_of (by simpa using hl) (fun k z hz => by simpa using h (k + 1) z (by simpa using hz))]
theorem mapO_ex {α β : Type} {g : α → Option β} : ∀ {xs : List α}, (∀ x ∈ xs, ∃ y, g x = some y) → ∃ ys, mapO g xs = some ys
  | [], _ => ⟨[], rfl⟩
  | x :: xs, h => by
    obtain ⟨y, hy⟩ := h x (by simp)
    obtain ⟨ys, hys⟩ := mapO_ex (xs := xs) fun z hz => h z (by simp [hz])
    exact ⟨y :: ys, by rw [mapO, hy, hys]⟩

theorem addLast_snoc (x : Nat) : ∀ (out : List (List Nat)) (b : List Nat), addLast x (out ++ [b]) = out ++ [b ++ [x]]
  | [], b => rfl
  | [a], b => rfl
  | a :: c :: out, b => by
    have := addLast_snoc x (c :: out) b
    rw [List.cons_append] at this
    rw [List.cons_append, List.cons_append, addLast, this]
    rfl
theorem brF_append : ∀ (out : List (List Nat)) (a c : List Nat), brF out (a ++ c) = match brF out a with
    | none => none
    | some o => brF o c
  | out, [], c => rfl
  | out, x :: a, c => by
    rw [List.cons_append, brF, brF]
    cases brStep out x with
    | none => rfl
    | some o => exact brF_append o a c
theorem brF_rest : ∀ (out : List (List Nat)) (b c : List Nat), (∀ l ∈ c, 1 ≤ l) → brF (out ++ [b]) (bump c) = some (out ++ [b ++ c])
  | out, b, [], _ => by simp [bump, brF]
  | out, b, x :: c, h => by
    obtain ⟨x', rfl⟩ : ∃ x', x = x' + 1 := ⟨x - 1, by have := h x (by simp); omega⟩
    rw [bump, brF]
    have hs : brStep (out ++ [b]) (x' + 1 + 1) = some (out ++ [b ++ [x' + 1]]) := by
      have := addLast_snoc (x' + 1) out b
      cases ho : out ++ [b] with
      | nil => simp at ho
      | cons a os => rw [ho] at this; rw [brStep, this]
    rw [hs]
    have := brF_rest out (b ++ [x' + 1]) c fun l hl => h l (by simp [hl])
    simpa using this
theorem lvlF_pos : ∀ {p : Nat} {t : List Nat}, lvlF p t = true → ∀ l ∈ t, 1 ≤ l
  | p, [], _ => by simp
  | p, x :: t, h => by
    rw [lvlF] at h
    cases h1 : Nat.ble 1 x with
    | false => rw [h1] at h; cases h
    | true =>
      cases h2 : Nat.ble x (p + 1) with
      | false => rw [h1, h2] at h; cases h
      | true =>
        rw [h1, h2] at h
        intro l hl
        rcases List.mem_cons.1 hl with rfl | hl
        · exact Nat.le_of_ble_eq_true h1
        · exact lvlF_pos h l hl
theorem lvl_cons {t : List Nat} (h : lvl t = true) : ∃ c, t = 0 :: c ∧ lvlF 0 c = true := by
  cases t with
  | nil => cases h
  | cons a c =>
    rw [lvl] at h
    cases h1 : Nat.beq a 0 with
    | false => rw [h1] at h; cases h
    | true => rw [h1] at h; have := Nat.eq_of_beq_eq_true h1; subst this; exact ⟨c, rfl, h⟩
theorem brF_bumps : ∀ (out bs : List (List Nat)), (∀ b ∈ bs, lvl b = true) → brF out (bumps bs) = some (out ++ bs)
  | out, [], _ => by simp [bumps, brF]
  | out, b :: bs, h => by
    obtain ⟨c, rfl, hc⟩ := lvl_cons (h b (by simp))
    rw [bumps, brF_append, bump, brF]
    have : brStep out (0 + 1) = some (out ++ [[0]]) := rfl
    rw [this]
    simp only
    rw [brF_rest out [0] c (lvlF_pos hc)]
    simp only
    rw [brF_bumps _ bs fun x hx => h x (by simp [hx])]
    simp
theorem brO_root {bs : List (List Nat)} (h : ∀ b ∈ bs, lvl b = true) : brO (rootN bs) = some bs := by
  rw [rootN, brO, brF_bumps [] bs h]; rfl
theorem lvlF_bump : ∀ {p : Nat} {t d : List Nat}, lvlF p t = true → (∀ q, lvlF q d = true) → lvlF (p + 1) (bump t ++ d) = true
  | p, [], d, _, hd => hd _
  | p, x :: t, d, h, hd => by
    rw [lvlF] at h
    cases h1 : Nat.ble 1 x with
    | false => rw [h1] at h; cases h
    | true =>
      cases h2 : Nat.ble x (p + 1) with
      | false => rw [h1, h2] at h; cases h
      | true =>
        rw [h1, h2] at h
        rw [bump, List.cons_append, lvlF, Nat.ble_eq_true_of_le (by omega), Nat.ble_eq_true_of_le (by have := Nat.le_of_ble_eq_true h2; omega)]
        exact lvlF_bump h hd
theorem lvlF_bumps : ∀ {bs : List (List Nat)}, (∀ b ∈ bs, lvl b = true) → ∀ q, lvlF q (bumps bs) = true
  | [], _, q => rfl
  | b :: bs, h, q => by
    obtain ⟨c, rfl, hc⟩ := lvl_cons (h b (by simp))
    rw [bumps, bump, List.cons_append, lvlF]
    simp only [Nat.zero_add, Nat.ble_eq_true_of_le (Nat.le_refl 1), Nat.ble_eq_true_of_le (show 1 ≤ q + 1 by omega), cond_true]
    exact lvlF_bump hc (lvlF_bumps fun x hx => h x (by simp [hx]))
theorem lvl_root {bs : List (List Nat)} (h : ∀ b ∈ bs, lvl b = true) : lvl (rootN bs) = true := by
  rw [rootN, lvl]; exact lvlF_bumps h 0

theorem canO_9 {t : List Nat} (ht : lvl t = true) (hl : t.length ≤ 8) : canO 8 t = canO 9 t := by
  have h := lev8 (p := fun t => match canO 8 t, canO 9 t with | some a, some b => eqN a b | _, _ => false) (by decide +kernel) ht hl
  cases h8 : canO 8 t with
  | none => rw [h8] at h; cases h
  | some a =>
    cases h9 : canO 9 t with
    | none => rw [h8, h9] at h; cases h
    | some b => rw [h8, h9] at h; rw [eqN_iff.1 h]
theorem canO_rootN {bs : List (List Nat)} {cs : List (List Nat)} (h : ∀ b ∈ bs, lvl b = true) (hm : mapO (canO 8) bs = some cs) : canO 9 (rootN bs) = some (rootN (srtD cs)) := by
  rw [canO, brO_root h]
  simp only
  rw [hm]

theorem len_bumps_mem {b : List Nat} {bs : List (List Nat)} (h : b ∈ bs) : b.length + 1 ≤ (rootN bs).length := by
  rw [rootN, List.length_cons, bumps_len]
  have := brLen_memb h
  omega
theorem tfO_raw : ∀ {f : Nat} {near : List (List Nat)} {root fr : Nat} {q : List Nat}, rawO f near root fr = some q → q.length ≤ 8 → lvl q = true ∧ tfO f near root fr = canO 9 q
  | 0, near, root, fr, q, h, _ => by cases h
  | f + 1, near, root, fr, q, h, h8 => by
    rw [rawO] at h
    rw [tfO]
    cases hn : near[root]? with
    | none => rw [hn] at h; cases h
    | some ns =>
      rw [hn] at h
      simp only at h ⊢
      cases hm : mapO (fun n => rawO f near n (root + 1)) (ns.filter fun n => !Nat.beq (n + 1) fr) with
      | none => rw [hm] at h; cases h
      | some raws =>
        rw [hm] at h
        simp only [Option.some.injEq] at h
        subst h
        have hall : ∀ b ∈ raws, lvl b = true ∧ b.length ≤ 8 ∧ ∃ x ∈ (ns.filter fun n => !Nat.beq (n + 1) fr), rawO f near x (root + 1) = some b := by
          intro b hb
          obtain ⟨x, hx, hxb⟩ := mapO_all hm b hb
          have hl := len_bumps_mem hb
          exact ⟨(tfO_raw hxb (by omega)).1, by omega, x, hx, hxb⟩
        have hlv : ∀ b ∈ raws, lvl b = true := fun b hb => (hall b hb).1
        refine ⟨lvl_root hlv, ?_⟩
        obtain ⟨cs, hcs⟩ := mapO_ex (g := canO 9) (xs := raws) fun b hb => by
          obtain ⟨r, hr, -, -⟩ := canO_8 (hall b hb).1 (hall b hb).2.1
          exact ⟨r, hr⟩
        have hm2 : mapO (fun n => tfO f near n (root + 1)) (ns.filter fun n => !Nat.beq (n + 1) fr) = some cs := by
          refine mapO_of (by rw [mapO_len hcs, mapO_len hm]) fun k x hx => ?_
          obtain ⟨b, hb, hxb⟩ := mapO_get hm k x hx
          obtain ⟨c, hc, hbc⟩ := mapO_get hcs k b hb
          have hbm := List.mem_of_getElem? hb
          exact ⟨c, hc, by rw [(tfO_raw hxb (hall b hbm).2.1).2, hbc]⟩
        rw [hm2]
        simp only
        have h1 : mapO (canO 8) raws = some cs := mapO_imp (fun b hb y hy => by rw [canO_9 (hall b hb).1 (hall b hb).2.1]; exact hy) hcs
        have hcl : ∀ c ∈ cs, lvl c = true ∧ canO 8 c = some c := by
          intro c hc
          obtain ⟨b, hb, hbc⟩ := mapO_all hcs c hc
          obtain ⟨r, hr, h2, h3⟩ := canO_8 (hall b hb).1 (hall b hb).2.1
          rw [hbc] at hr
          injection hr with hr
          subst hr
          exact ⟨h2, by rw [canO_9 h2 (by rw [canO_len hbc]; exact (hall b hb).2.1)]; exact h3⟩
        have h2 : mapO (canO 8) cs = some cs := mapO_of rfl fun k c hc => ⟨c, hc, (hcl c (List.mem_of_getElem? hc)).2⟩
        rw [canO_rootN hlv h1, canO_rootN (fun c hc => (hcl c hc).1) h2]
end Go.Proofs.YtngdpoeondnchaaGreat

set_option maxRecDepth 100000
set_option linter.unusedVariables false
set_option linter.unusedSimpArgs false
namespace Go.Proofs.YtngdpoeondnchaaGreat
open Go.RowKit

end Go.Proofs.YtngdpoeondnchaaGreat

set_option maxRecDepth 100000
set_option linter.unusedVariables false
set_option linter.unusedSimpArgs false
namespace Go.Proofs.YtngdpoeondnchaaGreat
open Go.RowKit

set_option maxHeartbeats 400000 in
theorem s_l01Same (w : World) (a b : Value) (xs ys : List Int) (ha : Ints w a xs) (hb : Ints w b ys) :
    Calls Tryz.prog 68 #[a, b] w fun e w' => e = .returned (.bool (decide (xs = ys))) ∧ ∃ n, w' = w.drewN n := by
  obtain ⟨A, c, rfl, h1, h2, h3⟩ := ha.open_
  obtain ⟨B, d, rfl, g1, g2, g3⟩ := hb.open_
  clear ha hb
  have H3 := Lib.hid h3
  have G3 := Lib.hid g3
  clear h3 g3
  by_cases hl : xs.length = ys.length
  · have hl' : (((xs.length : Nat) : Int) != ((ys.length : Nat) : Int)) = false := by simp [hl]
    have HL := Lib.hid hl
    clear hl
    have g4 : ys.length ≤ xs.length := by rw [HL.out]; omega
    have g5 : xs.length ≤ ys.length := by rw [HL.out]; omega
    go_enter Tryz.func68, Tryz.ntmps68
    go_wp2
    go_loopw [5] (fun i wr => ∃ k n : Nat, k ≤ xs.length ∧ i = .int .i64 k ∧ xs.take k = ys.take k ∧ wr = w.drewN n) (fun i _ => xs.length - (intOf i).toNat)
    case atStart => exact ⟨0, 0, Nat.zero_le _, rfl, rfl, rfl⟩
    case round =>
      obtain ⟨k, n, hk, rfl, ht, rfl⟩ := hrel
      have HT := Lib.hid ht
      clear ht
      by_cases hlt : k < xs.length
      · obtain ⟨ad, z, rfl, hz, hz2, hc⟩ := H3.out k hlt
        obtain ⟨ad', y, rfl, hy, hy2, hc'⟩ := G3.out k (by omega)
        have HZ := Lib.hid hz
        have HY := Lib.hid hy
        clear hz hy hz2 hy2
        go_wp2
        go_quiet (fail)
        go_wp2
        · have hne : (z != y) = true := by assumption
          go_ret
          refine ⟨ret_bool ?_, _, World.drewN_drewN _ _ _⟩
          symm
          simp only [decide_eq_false_iff_not]
          rintro rfl
          have := HZ.out.symm.trans HY.out
          simp at this hne
          exact hne this
        · have hne : (z != y) = false := by assumption
          go_roundw
          case rel => exact ⟨k + 1, _, by omega, by go_num, take_eq_succ HT.out HZ.out HY.out (by simpa using hne), rfl⟩
          case measure => simp [intOf]; omega
      · have : k = xs.length := by omega
        subst this
        go_wp2
        go_ret
        refine ⟨ret_bool ?_, _, rfl⟩
        have e := HT.out
        rw [List.take_length, List.take_of_length_le (by omega)] at e
        simp [e]
  · have hl' : (((xs.length : Nat) : Int) != ((ys.length : Nat) : Int)) = true := by simp; omega
    have HL := Lib.hid hl
    clear hl
    go_enter Tryz.func68, Tryz.ntmps68
    go_wp2
    go_ret
    refine ⟨ret_bool ?_, 0, rfl⟩
    have := HL.out
    symm
    simp only [decide_eq_false_iff_not]
    rintro rfl
    exact this rfl

end Go.Proofs.YtngdpoeondnchaaGreat

set_option maxRecDepth 100000
set_option linter.unusedVariables false
set_option linter.unusedSimpArgs false
namespace Go.Proofs.YtngdpoeondnchaaGreat
open Go.RowKit

end Go.Proofs.YtngdpoeondnchaaGreat

set_option maxRecDepth 100000
set_option linter.unusedVariables false
set_option linter.unusedSimpArgs false
namespace Go.Proofs.YtngdpoeondnchaaGreat
open Go.RowKit

/-- the binary search -/
def bsF (xs : List (List Nat)) (t : List Nat) : Nat → Nat → Nat → Nat
  | 0, i, _ => i
  | f + 1, i, j => bif Nat.blt i j then (bif befN (xs.getD ((i + j) / 2) []) t then bsF xs t f ((i + j) / 2 + 1) j else bsF xs t f i ((i + j) / 2)) else i
/-- one more than the place that the binary search finds, or 0 -/
def idxN (xs : List (List Nat)) (t : List Nat) : Nat := bif Nat.blt (bsF xs t xs.length 0 xs.length) xs.length && eqN (xs.getD (bsF xs t xs.length 0 xs.length) []) t then bsF xs t xs.length 0 xs.length + 1 else 0
/-- one more than the first place of a tree in a list, or 0 -/
def fndF (t : List Nat) : Nat → List (List Nat) → Nat
  | _, [] => 0
  | i, x :: xs => bif eqN x t then i + 1 else fndF t (i + 1) xs
def fndN (xs : List (List Nat)) (t : List Nat) : Nat := fndF t 0 xs

theorem bsF_end {xs : List (List Nat)} {t : List Nat} : ∀ {f i j : Nat}, ¬ i < j → bsF xs t f i j = i
  | 0, i, j, _ => rfl
  | f + 1, i, j, h => by
    have : Nat.blt i j = false := by
      cases hh : Nat.blt i j with
      | true => exact absurd ((blt_iff _ _).1 hh) h
      | false => rfl
    rw [bsF, this]; rfl
theorem bsF_step {xs : List (List Nat)} {t : List Nat} {f i j : Nat} (h : i < j) (hf : j - i ≤ f) : ∃ g, f = g + 1 ∧ bsF xs t f i j = bif befN (xs.getD ((i + j) / 2) []) t then bsF xs t g ((i + j) / 2 + 1) j else bsF xs t g i ((i + j) / 2) := by
  obtain ⟨g, rfl⟩ : ∃ g, f = g + 1 := ⟨f - 1, by omega⟩
  exact ⟨g, rfl, by rw [bsF, (blt_iff _ _).2 h]; rfl⟩
theorem ret_i64 {a b : Int} (h : a = b) : Ending.returned (.int .i64 a) = Ending.returned (.int .i64 b) := by rw [h]
theorem cmpL_zero : ∀ a b : List Int, cmpL a b = 0 ↔ a = b
  | [], [] => by simp [cmpL]
  | [], _ :: _ => by simp [cmpL]
  | _ :: _, [] => by simp [cmpL]
  | x :: xs, y :: ys => by
    rw [cmpL]
    by_cases h1 : x < y
    · rw [if_pos h1]; constructor
      · intro h; omega
      · intro h; injection h with h _; omega
    · rw [if_neg h1]
      by_cases h2 : y < x
      · rw [if_pos h2]; constructor
        · intro h; omega
        · intro h; injection h with h _; omega
      · rw [if_neg h2, cmpL_zero xs ys, show x = y by omega]
        simp
theorem cmpT_zero (a b : List Nat) : (cmpT (up a) (up b) == 0) = eqN a b := by
  have h : cmpT (up a) (up b) = 0 ↔ a = b := by
    unfold cmpT
    rw [up_len, up_len]
    by_cases hl : a.length = b.length
    · rw [if_pos hl, cmpL_zero]
      exact ⟨fun h => (up_inj h).symm, fun h => by rw [h]⟩
    · rw [if_neg hl]
      exact ⟨fun h => absurd (by omega) hl, fun h => absurd (by rw [h]) hl⟩
  by_cases e : a = b
  · rw [eqN_iff.2 e, h.2 e]; rfl
  · have h1 : eqN a b = false := by
      cases hh : eqN a b with
      | true => exact absurd (eqN_iff.1 hh) e
      | false => rfl
    rw [h1]
    have : cmpT (up a) (up b) ≠ 0 := fun hz => e (h.1 hz)
    simpa using this

set_option maxHeartbeats 4000000 in
theorem lib_Search (w : World) (v tv : Value) (xs : List (List Nat)) (t : List Nat) (ha : Rows w v (xs.map up)) (ht : Ints w tv (up t)) (hn : xs.length ≤ 1000) :
    Calls Tryz.prog 171 #[v, tv, .func (.func 141) #[] #[]] w fun e w' => e = .returned (.tuple #[.int .i64 (bsF xs t xs.length 0 xs.length), .bool (Nat.blt (bsF xs t xs.length 0 xs.length) xs.length && eqN (xs.getD (bsF xs t xs.length 0 xs.length) []) t)]) ∧ w = w' := by
  obtain ⟨A, c, rfl, l1, l2, h3⟩ := ha.open_
  rw [List.length_map] at l1 h3 ⊢
  have HT := Lib.hid ht
  have H3 := Lib.hid (show ∀ k, k < xs.length → ∃ ad q A5 c5, A = some ad ∧ xs[k]? = some q ∧ Ints w (.slice A5 q.length c5) (up q) ∧ w.cell? (ad.add k) = some (.slice A5 q.length c5) from fun k hk => by
    obtain ⟨ad, u, zs, h1, h2, h4, h5⟩ := h3 k hk
    have hq : xs[k]? = some (xs[k]'hk) := List.getElem?_eq_getElem _
    rw [List.getElem?_map, hq] at h2
    injection h2 with h2
    subst h2
    obtain ⟨A5, c5, he5, -, -, -⟩ := h4.open_
    rw [up_len] at he5
    subst he5
    exact ⟨ad, _, A5, c5, h1, hq, h4, h5⟩)
  obtain ⟨At, ct, rfl, -, -, -⟩ := ht.open_
  rw [up_len] at HT ⊢
  obtain ⟨R, hR⟩ : ∃ R, R = bsF xs t xs.length 0 xs.length := ⟨_, rfl⟩
  rw [← hR]
  obtain ⟨BB, hBB⟩ : ∃ BB, BB = (Nat.blt R xs.length && eqN (xs.getD R []) t) := ⟨_, rfl⟩
  rw [← hBB]
  have HR := Lib.hid hR
  have HBB := Lib.hid hBB
  clear ha ht h3 hR hBB
  go_enter Tryz.func171, Tryz.ntmps171
  go_wp2_with fail
  go_loopw [9, 10] (fun x y wr => ∃ i j f : Nat, i ≤ j ∧ j ≤ xs.length ∧ x = .int .i64 i ∧ y = .int .i64 j ∧ j - i ≤ f ∧ Hid (bsF xs t f i j = R) ∧ w = wr) (fun x y _ => (intOf y).toNat - (intOf x).toNat)
  case atStart => exact ⟨0, xs.length, xs.length, Nat.zero_le _, Nat.le_refl _, rfl, rfl, by omega, HR.out.symm, rfl⟩
  case round =>
    obtain ⟨i, j, f, hij, hj, rfl, rfl, hf, HB, rfl⟩ := hrel
    by_cases hlt : i < j
    · obtain ⟨g, hfg, hbs⟩ := bsF_step (xs := xs) (t := t) hlt hf
      rw [HB.out] at hbs
      obtain ⟨ad, q, A5, c5, rfl, hq, hq2, hc⟩ := H3.out ((i + j) / 2) (by omega)
      have hgd : xs.getD ((i + j) / 2) [] = q := by simp [List.getD, hq]
      rw [hgd] at hbs
      have hcm := cmpT_up q t
      have hct := i_compareTrees w _ _ _ _ hq2 HT.out
      generalize cmpT (up q) (up t) = z at hcm hct
      have HCT := Lib.hid hct
      have hii : (i : Int) < (j : Int) := by omega
      have hw1 : IntKind.i64.wrap ((i : Int) + (j : Int)) = (i : Int) + (j : Int) := IntWalk.i64_in _ (by omega)
      have hw2 : IntKind.u64.wrap ((i : Int) + (j : Int)) = (i : Int) + (j : Int) := IntWalk.u64_in _ (by omega)
      clear hq hq2 hgd hct
      cases hb : befN q t with
      | true =>
        rw [hb] at hbs hcm
        have HBS := Lib.hid hbs
        have hz : z < 0 := by simpa using hcm
        have hw3 : IntKind.i64.wrap (((i : Int) + (j : Int)) / 2 + 1) = ((i : Int) + (j : Int)) / 2 + 1 := IntWalk.i64_in _ (by omega)
        clear hbs hb hcm
        go_wp2_with (go_at_call 141; refine HCT.out.mono ?_; rintro e w1 ⟨rfl, rfl⟩)
        go_roundw
        case rel =>
          clear hw1 hw2 hw3
          exact ⟨(i + j) / 2 + 1, j, g, by omega, hj, by congr 1 <;> omega, rfl, by omega, HBS.out.symm, by first | rfl | trivial⟩
        case measure => clear hw1 hw2 hw3; simp [intOf]; omega
      | false =>
        rw [hb] at hbs hcm
        have HBS := Lib.hid hbs
        have hz : ¬ (z < 0) := by simpa using hcm
        clear hbs hb hcm
        go_wp2_with (go_at_call 141; refine HCT.out.mono ?_; rintro e w1 ⟨rfl, rfl⟩)
        go_roundw
        case rel =>
          clear hw1 hw2
          exact ⟨i, (i + j) / 2, g, by omega, by omega, rfl, by congr 1 <;> omega, by omega, HBS.out.symm, by first | rfl | trivial⟩
        case measure => clear hw1 hw2; simp [intOf]; omega
    · have hiR : i = R := by rw [← HB.out, bsF_end hlt]
      have hii : ¬ ((i : Int) < (j : Int)) := by omega
      subst hiR
      by_cases hl : i < xs.length
      · obtain ⟨ad, q, A5, c5, rfl, hq, hq2, hc⟩ := H3.out i hl
        have hgd : xs.getD i [] = q := by simp [List.getD, hq]
        have hcm := cmpT_zero q t
        have hct := i_compareTrees w _ _ _ _ hq2 HT.out
        generalize cmpT (up q) (up t) = z at hcm hct
        have HCT := Lib.hid hct
        have HE := Lib.hid (show BB = (z == 0) from by rw [HBB.out, (blt_iff _ _).2 hl, hgd, hcm]; rfl)
        have hli : (i : Int) < (xs.length : Int) := by omega
        clear hq hq2 hgd hct hcm
        go_wp2_with (go_at_call 141; refine HCT.out.mono ?_; rintro e w1 ⟨rfl, rfl⟩)
        go_ret2
        obtain rfl := HE.out
        exact ⟨rfl, rfl⟩
      · have HE := Lib.hid (show BB = false from by
          have : Nat.blt i xs.length = false := by
            cases hh : Nat.blt i xs.length with
            | true => exact absurd ((blt_iff _ _).1 hh) hl
            | false => rfl
          rw [HBB.out, this]; rfl)
        have hli : ¬ ((i : Int) < (xs.length : Int)) := by omega
        go_wp2_with fail
        go_ret2
        obtain rfl := HE.out
        exact ⟨rfl, rfl⟩

set_option maxHeartbeats 2000000 in
theorem i_indexIn (w : World) (v tv : Value) (xs : List (List Nat)) (t : List Nat) (ha : Rows w v (xs.map up)) (ht : Ints w tv (up t)) (hn : xs.length ≤ 1000) :
    Calls Tryz.prog 144 #[v, tv] w fun e w' => e = .returned (.int .i64 ((idxN xs t : Int) - 1)) ∧ w = w' := by
  have HS := Lib.hid (lib_Search w v tv xs t ha ht hn)
  have hI : idxN xs t = bif Nat.blt (bsF xs t xs.length 0 xs.length) xs.length && eqN (xs.getD (bsF xs t xs.length 0 xs.length) []) t then bsF xs t xs.length 0 xs.length + 1 else 0 := rfl
  obtain ⟨A, c, rfl, -, -, -⟩ := ha.open_
  obtain ⟨At, ct, rfl, -, -, -⟩ := ht.open_
  rw [List.length_map, up_len] at HS ⊢
  generalize (Nat.blt (bsF xs t xs.length 0 xs.length) xs.length && eqN (xs.getD (bsF xs t xs.length 0 xs.length) []) t) = b at hI HS
  generalize bsF xs t xs.length 0 xs.length = R at hI HS
  clear ha ht
  cases b with
  | true =>
    have HI := Lib.hid (show ((idxN xs t : Int) - 1) = (R : Int) from by rw [hI]; simp)
    rw [HI.out]
    clear hI
    go_enter Tryz.func144, Tryz.ntmps144
    go_wp2_with (go_at_call 171; refine HS.out.mono ?_; rintro e w1 ⟨rfl, rfl⟩)
    go_ret
    exact ⟨rfl, rfl⟩
  | false =>
    have HI := Lib.hid (show ((idxN xs t : Int) - 1) = -1 from by rw [hI]; simp)
    rw [HI.out]
    clear hI
    go_enter Tryz.func144, Tryz.ntmps144
    go_wp2_with (go_at_call 171; refine HS.out.mono ?_; rintro e w1 ⟨rfl, rfl⟩)
    go_ret
    exact ⟨rfl, rfl⟩

theorem fndF_step {t : List Nat} {xs : List (List Nat)} {k : Nat} {q : List Nat} (hq : xs[k]? = some q) (i : Nat) : fndF t i (xs.drop k) = bif eqN q t then i + 1 else fndF t (i + 1) (xs.drop (k + 1)) := by
  have : xs.drop k = q :: xs.drop (k + 1) := by
    obtain ⟨hk, rfl⟩ := List.getElem?_eq_some_iff.1 hq
    exact List.drop_eq_getElem_cons hk
  rw [this, fndF]

set_option maxHeartbeats 2000000 in
theorem s_l03Find (w : World) (v tv : Value) (xs : List (List Nat)) (t : List Nat) (ha : Rows w v (xs.map up)) (ht : Ints w tv (up t)) (hn : xs.length ≤ 1000) :
    Calls Tryz.prog 118 #[v, tv] w fun e w' => e = .returned (.int .i64 ((fndN xs t : Int) - 1)) ∧ ∃ n, w' = w.drewN n := by
  obtain ⟨A, c, rfl, l1, l2, h3⟩ := ha.open_
  rw [List.length_map] at l1 h3 ⊢
  have HT := Lib.hid ht
  have H3 := Lib.hid (show ∀ k, k < xs.length → ∃ ad q A5 c5, A = some ad ∧ xs[k]? = some q ∧ Ints w (.slice A5 q.length c5) (up q) ∧ w.cell? (ad.add k) = some (.slice A5 q.length c5) from fun k hk => by
    obtain ⟨ad, u, zs, h1, h2, h4, h5⟩ := h3 k hk
    have hq : xs[k]? = some (xs[k]'hk) := List.getElem?_eq_getElem _
    rw [List.getElem?_map, hq] at h2
    injection h2 with h2
    subst h2
    obtain ⟨A5, c5, he5, -, -, -⟩ := h4.open_
    rw [up_len] at he5
    subst he5
    exact ⟨ad, _, A5, c5, h1, hq, h4, h5⟩)
  obtain ⟨At, ct, rfl, -, -, -⟩ := ht.open_
  rw [up_len] at HT ⊢
  have hF : fndF t 0 (xs.drop 0) = fndN xs t := rfl
  generalize fndN xs t = R at hF
  have HF := Lib.hid hF
  clear ha ht h3 hF
  go_enter Tryz.func118, Tryz.ntmps118
  go_wp2_with fail
  go_loopw [5] (fun x wr => ∃ i d : Nat, i ≤ xs.length ∧ x = .int .i64 i ∧ Hid (fndF t i (xs.drop i) = R) ∧ wr = w.drewN d) (fun x _ => xs.length - (intOf x).toNat)
  case atStart => exact ⟨0, 0, Nat.zero_le _, rfl, HF.out, rfl⟩
  case round =>
    obtain ⟨i, d, hi, rfl, HR, rfl⟩ := hrel
    by_cases hl : i < xs.length
    · obtain ⟨ad, q, A5, c5, rfl, hq, hq2, hc⟩ := H3.out i hl
      have hr := HR.out
      rw [fndF_step hq] at hr
      have HQ := Lib.hid (hq2.drewN d)
      have HTd := Lib.hid (HT.out.drewN d)
      have hsm := s_l01Same (w.drewN d) _ _ _ _ HQ.out HTd.out
      have hed : eqN q t = decide (up q = up t) := by
        by_cases e : q = t
        · rw [eqN_iff.2 e, e]; exact (decide_eq_true rfl).symm
        · have h1 : eqN q t = false := by
            cases hh : eqN q t with
            | true => exact absurd (eqN_iff.1 hh) e
            | false => rfl
          rw [h1]; exact (decide_eq_false fun h => e (up_inj h)).symm
      rw [← hed] at hsm
      have hli : (i : Int) < (xs.length : Int) := by omega
      clear hq hq2 hed HR
      cases hb : eqN q t with
      | true =>
        rw [hb] at hr hsm
        have HSM := Lib.hid hsm
        have HI := Lib.hid (show ((R : Int) - 1) = (i : Int) from by rw [← show i + 1 = R from hr]; omega)
        clear hr hsm hb
        go_wp2_with (go_at_call 68; refine HSM.out.mono ?_; rintro e w2 ⟨rfl, n2, rfl⟩)
        go_ret
        exact ⟨ret_i64 HI.out.symm, _, by first | rfl | exact World.drewN_drewN ..⟩
      | false =>
        rw [hb] at hr hsm
        have HSM := Lib.hid hsm
        have HI := Lib.hid (show fndF t (i + 1) (xs.drop (i + 1)) = R from hr)
        clear hr hsm hb
        go_wp2_with (go_at_call 68; refine HSM.out.mono ?_; rintro e w2 ⟨rfl, n2, rfl⟩)
        go_roundw
        case rel => exact ⟨i + 1, _, by omega, by go_num, HI.out, by first | rfl | exact World.drewN_drewN ..⟩
        case measure => simp [intOf]; omega
    · have hil : i = xs.length := by omega
      have HI := Lib.hid (show ((R : Int) - 1) = -1 from by rw [← HR.out, hil, List.drop_length, fndF]; rfl)
      have hli : ¬ ((i : Int) < (xs.length : Int)) := by omega
      go_wp2_with fail
      go_ret
      exact ⟨ret_i64 HI.out.symm, _, rfl⟩
end Go.Proofs.YtngdpoeondnchaaGreat

