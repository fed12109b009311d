/- Plain: a tree made from its neighbours is the canonical list of the list that is made without sorting. | Walks: rooted, slices.MinFunc, freeForm of the program. | Walks: equality of lists and of lists of lists, of the library and of the reference. | Walks: isSuperfluous, the predicate of freeTreesOf, of the program. | Walks: slices.BinarySearchFunc at trees, indexIn of the program; l03Find of the reference. | Walks: slices.CompareFunc at forests; words for structs of two lists and a count. | slices.SortFunc at partitions: laid. | Walks: the comparison of partitions; slices.SortFunc at partitions. | Plain: a canonical tree cut up above the nodes of a mask: the program's pieces and skeleton and the reference's are made from the same lists. | Walks: masks: l16Mask of the reference, isCutMask of the program. | Walks: isCutMask, checkCutMask of the program; l16Code of the reference. | Walks: isCutMask, checkCutMask of the program. | Plain: what holds of the program's state while it cuts a tree up. | Plain: the trees of at most eight nodes, cut up: the kernel looks at all of them. First part. | Plain: the trees of at most eight nodes, cut up: the kernel looks at all of them. Second part. -/
import Derived.Test.YtofabikjjkapmaaPo7
import Derived.Test.YtofabikjjkapmaaPo8
import Derived.Test.YtofabikjjkapmaaPo2
import Derived.Test.YtofabikjjkapmaaPo6
import Derived.Test.YtofabikjjkapmaaPo5
import Derived.Shelf.SlSortCmp.WholeK
import Derived.Shelf.SlSortCmp.NoneTotal
import Derived.Shelf.SlGeneric
import Derived.Ground.SlsfProg
set_option linter.unusedVariables false
set_option linter.unusedSimpArgs false
set_option maxRecDepth 100000
namespace Go.Proofs.Ytofabikjjkapmaa

/-- the list of the tree with a root whose nodes are joined to others, its branches as they come -/
def rawO : Nat → List (List Nat) → Nat → Nat → Option (List Nat)
  | 0, _, _, _ => none
  | f + 1, near, root, fr => match near[root]? with
    | none => none
    | some ns => match mapO (fun n => rawO f near n (root + 1)) (ns.filter fun n => !Nat.beq (n + 1) fr) with
      | none => none
      | some bs => some (rootN bs)

theorem mapO_imp {α β : Type} {g g' : α → Option β} : ∀ {xs : List α} {ys : List β}, (∀ x ∈ xs, ∀ y, g x = some y → g' x = some y) → mapO g xs = some ys → mapO g' xs = some ys
  | [], ys, _, h => by simpa [mapO] using h
  | x :: xs, ys, hg, h => by
    obtain ⟨y, ys', rfl, hy, h'⟩ := mapO_cons h
    rw [mapO, hg x (by simp) y hy, mapO_imp (fun z hz => hg z (by simp [hz])) h']
theorem mapO_of {α β : Type} {g : α → Option β} : ∀ {xs : List α} {ys : List β}, ys.length = xs.length → (∀ (k : Nat) (x : α), xs[k]? = some x → ∃ y, ys[k]? = some y ∧ g x = some y) → mapO g xs = some ys
  | [], [], _, _ => rfl
  | [], _ :: _, h, _ => by simp at h
  | _ :: _, [], h, _ => by simp at h
  | x :: xs, y :: ys, hl, h => by
    obtain ⟨y', h1, h2⟩ := h 0 x (by simp)
    simp at h1; subst h1
    rw [mapO, h2, mapO_of (by simpa using hl) (fun k z hz => by simpa using h (k + 1) z (by simpa using hz))]
theorem mapO_ex {α β : Type} {g : α → Option β} : ∀ {xs : List α}, (∀ x ∈ xs, ∃ y, g x = some y) → ∃ ys, mapO g xs = some ys
  | [], _ => ⟨[], rfl⟩
  | x :: xs, h => by
    obtain ⟨y, hy⟩ := h x (by simp)
    obtain ⟨ys, hys⟩ := mapO_ex (xs := xs) fun z hz => h z (by simp [hz])
    exact ⟨y :: ys, by rw [mapO, hy, hys]⟩

theorem addLast_snoc (x : Nat) : ∀ (out : List (List Nat)) (b : List Nat), addLast x (out ++ [b]) = out ++ [b ++ [x]]
  | [], b => rfl
  | [a], b => rfl
  | a :: c :: out, b => by
    have := addLast_snoc x (c :: out) b
    rw [List.cons_append] at this
    rw [List.cons_append, List.cons_append, addLast, this]
    rfl
theorem brF_append : ∀ (out : List (List Nat)) (a c : List Nat), brF out (a ++ c) = match brF out a with
    | none => none
    | some o => brF o c
  | out, [], c => rfl
  | out, x :: a, c => by
    rw [List.cons_append, brF, brF]
    cases brStep out x with
    | none => rfl
    | some o => exact brF_append o a c
theorem brF_rest : ∀ (out : List (List Nat)) (b c : List Nat), (∀ l ∈ c, 1 ≤ l) → brF (out ++ [b]) (bump c) = some (out ++ [b ++ c])
  | out, b, [], _ => by simp [bump, brF]
  | out, b, x :: c, h => by
    obtain ⟨x', rfl⟩ : ∃ x', x = x' + 1 := ⟨x - 1, by have := h x (by simp); omega⟩
    rw [bump, brF]
    have hs : brStep (out ++ [b]) (x' + 1 + 1) = some (out ++ [b ++ [x' + 1]]) := by
      have := addLast_snoc (x' + 1) out b
      cases ho : out ++ [b] with
      | nil => simp at ho
      | cons a os => rw [ho] at this; rw [brStep, this]
    rw [hs]
    have := brF_rest out (b ++ [x' + 1]) c fun l hl => h l (by simp [hl])
    simpa using this
theorem lvlF_pos : ∀ {p : Nat} {t : List Nat}, lvlF p t = true → ∀ l ∈ t, 1 ≤ l
  | p, [], _ => by simp
  | p, x :: t, h => by
    rw [lvlF] at h
    cases h1 : Nat.ble 1 x with
    | false => rw [h1] at h; cases h
    | true =>
      cases h2 : Nat.ble x (p + 1) with
      | false => rw [h1, h2] at h; cases h
      | true =>
        rw [h1, h2] at h
        intro l hl
        rcases List.mem_cons.1 hl with rfl | hl
        · exact Nat.le_of_ble_eq_true h1
        · exact lvlF_pos h l hl
theorem lvl_cons {t : List Nat} (h : lvl t = true) : ∃ c, t = 0 :: c ∧ lvlF 0 c = true := by
  cases t with
  | nil => cases h
  | cons a c =>
    rw [lvl] at h
    cases h1 : Nat.beq a 0 with
    | false => rw [h1] at h; cases h
    | true => rw [h1] at h; have := Nat.eq_of_beq_eq_true h1; subst this; exact ⟨c, rfl, h⟩
theorem brF_bumps : ∀ (out bs : List (List Nat)), (∀ b ∈ bs, lvl b = true) → brF out (bumps bs) = some (out ++ bs)
  | out, [], _ => by simp [bumps, brF]
  | out, b :: bs, h => by
    obtain ⟨c, rfl, hc⟩ := lvl_cons (h b (by simp))
    rw [bumps, brF_append, bump, brF]
    have : brStep out (0 + 1) = some (out ++ [[0]]) := rfl
    rw [this]
    simp only
    rw [brF_rest out [0] c (lvlF_pos hc)]
    simp only
    rw [brF_bumps _ bs fun x hx => h x (by simp [hx])]
    simp
theorem brO_root {bs : List (List Nat)} (h : ∀ b ∈ bs, lvl b = true) : brO (rootN bs) = some bs := by
  rw [rootN, brO, brF_bumps [] bs h]; rfl
theorem lvlF_bump : ∀ {p : Nat} {t d : List Nat}, lvlF p t = true → (∀ q, lvlF q d = true) → lvlF (p + 1) (bump t ++ d) = true
  | p, [], d, _, hd => hd _
  | p, x :: t, d, h, hd => by
    rw [lvlF] at h
    cases h1 : Nat.ble 1 x with
    | false => rw [h1] at h; cases h
    | true =>
      cases h2 : Nat.ble x (p + 1) with
      | false => rw [h1, h2] at h; cases h
      | true =>
        rw [h1, h2] at h
        rw [bump, List.cons_append, lvlF, Nat.ble_eq_true_of_le (by omega), Nat.ble_eq_true_of_le (by have := Nat.le_of_ble_eq_true h2; omega)]
        exact lvlF_bump h hd
theorem lvlF_bumps : ∀ {bs : List (List Nat)}, (∀ b ∈ bs, lvl b = true) → ∀ q, lvlF q (bumps bs) = true
  | [], _, q => rfl
  | b :: bs, h, q => by
    obtain ⟨c, rfl, hc⟩ := lvl_cons (h b (by simp))
    rw [bumps, bump, List.cons_append, lvlF]
    simp only [Nat.zero_add, Nat.ble_eq_true_of_le (Nat.le_refl 1), Nat.ble_eq_true_of_le (show 1 ≤ q + 1 by omega), cond_true]
    exact lvlF_bump hc (lvlF_bumps fun x hx => h x (by simp [hx]))
theorem lvl_root {bs : List (List Nat)} (h : ∀ b ∈ bs, lvl b = true) : lvl (rootN bs) = true := by
  rw [rootN, lvl]; exact lvlF_bumps h 0

theorem canO_9 {t : List Nat} (ht : lvl t = true) (hl : t.length ≤ 8) : canO 8 t = canO 9 t := by
  have h := lev8 (p := fun t => match canO 8 t, canO 9 t with | some a, some b => eqN a b | _, _ => false) (by decide +kernel) ht hl
  cases h8 : canO 8 t with
  | none => rw [h8] at h; cases h
  | some a =>
    cases h9 : canO 9 t with
    | none => rw [h8, h9] at h; cases h
    | some b => rw [h8, h9] at h; rw [eqN_iff.1 h]
theorem canO_rootN {bs : List (List Nat)} {cs : List (List Nat)} (h : ∀ b ∈ bs, lvl b = true) (hm : mapO (canO 8) bs = some cs) : canO 9 (rootN bs) = some (rootN (srtD cs)) := by
  rw [canO, brO_root h]
  simp only
  rw [hm]

theorem len_bumps_mem {b : List Nat} {bs : List (List Nat)} (h : b ∈ bs) : b.length + 1 ≤ (rootN bs).length := by
  rw [rootN, List.length_cons, bumps_len]
  have := brLen_memb h
  omega
theorem tfO_raw : ∀ {f : Nat} {near : List (List Nat)} {root fr : Nat} {q : List Nat}, rawO f near root fr = some q → q.length ≤ 8 → lvl q = true ∧ tfO f near root fr = canO 9 q
  | 0, near, root, fr, q, h, _ => by cases h
  | f + 1, near, root, fr, q, h, h8 => by
    rw [rawO] at h
    rw [tfO]
    cases hn : near[root]? with
    | none => rw [hn] at h; cases h
    | some ns =>
      rw [hn] at h
      simp only at h ⊢
      cases hm : mapO (fun n => rawO f near n (root + 1)) (ns.filter fun n => !Nat.beq (n + 1) fr) with
      | none => rw [hm] at h; cases h
      | some raws =>
        rw [hm] at h
        simp only [Option.some.injEq] at h
        subst h
        have hall : ∀ b ∈ raws, lvl b = true ∧ b.length ≤ 8 ∧ ∃ x ∈ (ns.filter fun n => !Nat.beq (n + 1) fr), rawO f near x (root + 1) = some b := by
          intro b hb
          obtain ⟨x, hx, hxb⟩ := mapO_all hm b hb
          have hl := len_bumps_mem hb
          exact ⟨(tfO_raw hxb (by omega)).1, by omega, x, hx, hxb⟩
        have hlv : ∀ b ∈ raws, lvl b = true := fun b hb => (hall b hb).1
        refine ⟨lvl_root hlv, ?_⟩
        obtain ⟨cs, hcs⟩ := mapO_ex (g := canO 9) (xs := raws) fun b hb => by
          obtain ⟨r, hr, -, -⟩ := canO_8 (hall b hb).1 (hall b hb).2.1
          exact ⟨r, hr⟩
        have hm2 : mapO (fun n => tfO f near n (root + 1)) (ns.filter fun n => !Nat.beq (n + 1) fr) = some cs := by
          refine mapO_of (by rw [mapO_len hcs, mapO_len hm]) fun k x hx => ?_
          obtain ⟨b, hb, hxb⟩ := mapO_get hm k x hx
          obtain ⟨c, hc, hbc⟩ := mapO_get hcs k b hb
          have hbm := List.mem_of_getElem? hb
          exact ⟨c, hc, by rw [(tfO_raw hxb (hall b hbm).2.1).2, hbc]⟩
        rw [hm2]
        simp only
        have h1 : mapO (canO 8) raws = some cs := mapO_imp (fun b hb y hy => by rw [canO_9 (hall b hb).1 (hall b hb).2.1]; exact hy) hcs
        have hcl : ∀ c ∈ cs, lvl c = true ∧ canO 8 c = some c := by
          intro c hc
          obtain ⟨b, hb, hbc⟩ := mapO_all hcs c hc
          obtain ⟨r, hr, h2, h3⟩ := canO_8 (hall b hb).1 (hall b hb).2.1
          rw [hbc] at hr
          injection hr with hr
          subst hr
          exact ⟨h2, by rw [canO_9 h2 (by rw [canO_len hbc]; exact (hall b hb).2.1)]; exact h3⟩
        have h2 : mapO (canO 8) cs = some cs := mapO_of rfl fun k c hc => ⟨c, hc, (hcl c (List.mem_of_getElem? hc)).2⟩
        rw [canO_rootN hlv h1, canO_rootN (fun c hc => (hcl c hc).1) h2]
end Go.Proofs.Ytofabikjjkapmaa

set_option maxRecDepth 100000
set_option linter.unusedVariables false
set_option linter.unusedSimpArgs false
namespace Go.Proofs.Ytofabikjjkapmaa
open Go.RowKit

end Go.Proofs.Ytofabikjjkapmaa

set_option maxRecDepth 100000
set_option linter.unusedVariables false
set_option linter.unusedSimpArgs false
namespace Go.Proofs.Ytofabikjjkapmaa
open Go.RowKit

set_option maxHeartbeats 400000 in
theorem s_l01Same (w : World) (a b : Value) (xs ys : List Int) (ha : Ints w a xs) (hb : Ints w b ys) :
    Calls Try.prog 70 #[a, b] w fun e w' => e = .returned (.bool (decide (xs = ys))) ∧ ∃ n, w' = w.drewN n := by
  obtain ⟨A, c, rfl, h1, h2, h3⟩ := ha.open_
  obtain ⟨B, d, rfl, g1, g2, g3⟩ := hb.open_
  clear ha hb
  have H3 := Lib.hid h3
  have G3 := Lib.hid g3
  clear h3 g3
  by_cases hl : xs.length = ys.length
  · have hl' : (((xs.length : Nat) : Int) != ((ys.length : Nat) : Int)) = false := by simp [hl]
    have HL := Lib.hid hl
    clear hl
    have g4 : ys.length ≤ xs.length := by rw [HL.out]; omega
    have g5 : xs.length ≤ ys.length := by rw [HL.out]; omega
    go_enter Try.func70, Try.ntmps70
    go_wp2
    go_loopw [5] (fun i wr => ∃ k n : Nat, k ≤ xs.length ∧ i = .int .i64 k ∧ xs.take k = ys.take k ∧ wr = w.drewN n) (fun i _ => xs.length - (intOf i).toNat)
    case atStart => exact ⟨0, 0, Nat.zero_le _, rfl, rfl, rfl⟩
    case round =>
      obtain ⟨k, n, hk, rfl, ht, rfl⟩ := hrel
      have HT := Lib.hid ht
      clear ht
      by_cases hlt : k < xs.length
      · obtain ⟨ad, z, rfl, hz, hz2, hc⟩ := H3.out k hlt
        obtain ⟨ad', y, rfl, hy, hy2, hc'⟩ := G3.out k (by omega)
        have HZ := Lib.hid hz
        have HY := Lib.hid hy
        clear hz hy hz2 hy2
        go_wp2
        go_quiet (fail)
        go_wp2
        · have hne : (z != y) = true := by assumption
          go_ret
          refine ⟨ret_bool ?_, _, World.drewN_drewN _ _ _⟩
          symm
          simp only [decide_eq_false_iff_not]
          rintro rfl
          have := HZ.out.symm.trans HY.out
          simp at this hne
          exact hne this
        · have hne : (z != y) = false := by assumption
          go_roundw
          case rel => exact ⟨k + 1, _, by omega, by go_num, take_eq_succ HT.out HZ.out HY.out (by simpa using hne), rfl⟩
          case measure => simp [intOf]; omega
      · have : k = xs.length := by omega
        subst this
        go_wp2
        go_ret
        refine ⟨ret_bool ?_, _, rfl⟩
        have e := HT.out
        rw [List.take_length, List.take_of_length_le (by omega)] at e
        simp [e]
  · have hl' : (((xs.length : Nat) : Int) != ((ys.length : Nat) : Int)) = true := by simp; omega
    have HL := Lib.hid hl
    clear hl
    go_enter Try.func70, Try.ntmps70
    go_wp2
    go_ret
    refine ⟨ret_bool ?_, 0, rfl⟩
    have := HL.out
    symm
    simp only [decide_eq_false_iff_not]
    rintro rfl
    exact this rfl

end Go.Proofs.Ytofabikjjkapmaa

set_option maxRecDepth 100000
set_option linter.unusedVariables false
set_option linter.unusedSimpArgs false
namespace Go.Proofs.Ytofabikjjkapmaa
open Go.RowKit

end Go.Proofs.Ytofabikjjkapmaa

set_option maxRecDepth 100000
set_option linter.unusedVariables false
set_option linter.unusedSimpArgs false
namespace Go.Proofs.Ytofabikjjkapmaa
open Go.RowKit

theorem ret_i64 {a b : Int} (h : a = b) : Ending.returned (.int .i64 a) = Ending.returned (.int .i64 b) := by rw [h]
theorem cmpL_zero : ∀ a b : List Int, cmpL a b = 0 ↔ a = b
  | [], [] => by simp [cmpL]
  | [], _ :: _ => by simp [cmpL]
  | _ :: _, [] => by simp [cmpL]
  | x :: xs, y :: ys => by
    rw [cmpL]
    by_cases h1 : x < y
    · rw [if_pos h1]; constructor
      · intro h; omega
      · intro h; injection h with h _; omega
    · rw [if_neg h1]
      by_cases h2 : y < x
      · rw [if_pos h2]; constructor
        · intro h; omega
        · intro h; injection h with h _; omega
      · rw [if_neg h2, cmpL_zero xs ys, show x = y by omega]
        simp
theorem cmpT_zero (a b : List Nat) : (cmpT (up a) (up b) == 0) = eqN a b := by
  have h : cmpT (up a) (up b) = 0 ↔ a = b := by
    unfold cmpT
    rw [up_len, up_len]
    by_cases hl : a.length = b.length
    · rw [if_pos hl, cmpL_zero]
      exact ⟨fun h => (up_inj h).symm, fun h => by rw [h]⟩
    · rw [if_neg hl]
      exact ⟨fun h => absurd (by omega) hl, fun h => absurd (by rw [h]) hl⟩
  by_cases e : a = b
  · rw [eqN_iff.2 e, h.2 e]; rfl
  · have h1 : eqN a b = false := by
      cases hh : eqN a b with
      | true => exact absurd (eqN_iff.1 hh) e
      | false => rfl
    rw [h1]
    have : cmpT (up a) (up b) ≠ 0 := fun hz => e (h.1 hz)
    simpa using this

end Go.Proofs.Ytofabikjjkapmaa

set_option maxRecDepth 100000
set_option linter.unusedVariables false
set_option linter.unusedSimpArgs false
namespace Go.Proofs.Ytofabikjjkapmaa
open Go.RowKit Go.Sort Go.Shelf

/-- a field that points to memory of its own -/
structure Fld (α : Type) where
  P : World → Nat → Value → α → Prop
  one : ∀ {w B u x}, P w B u x → u.oneCell' = true
  below : ∀ {w w' B u x}, P w B u x → Below w.heap.size w w' → P w' B u x
  mono : ∀ {w B B' u x}, P w B u x → B' ≤ B → P w B' u x
  kept : ∀ {w w' B u x} {e : TypeId} {v : Value}, P w B u x → w.grownBy w' v.ownBlock → BT w e v → tI ≠ e → tL ≠ e → P w' B u x
theorem LA.keptE {w w' : World} {B : Nat} {u v : Value} {e : TypeId} {xss : List (List Int)} (h : LA w B u xss) (hg : w.grownBy w' v.ownBlock) (hb : BT w e v) (h1 : tI ≠ e) (h2 : tL ≠ e) : LA w' B u xss := by
  obtain ⟨vs, a, b, c⟩ := h
  exact ⟨vs, a.kept hg (a.bt.ne hb h2), ⟨b.1, fun k u zs hu hz => (b.2 k u zs hu hz).kept hg ((b.2 k u zs hu hz).1.bt.ne hb h1)⟩, c⟩
def fldR : Fld (List (List Nat)) where
  P w B u x := LA w B u (x.map up)
  one h := by
    obtain ⟨A, c, rfl, -⟩ := h.rows.open_
    cases A <;> rfl
  below h hb := h.below hb
  mono h hB := h.mono hB
  kept h hg hb h1 h2 := h.keptE hg hb h1 h2
def fldI : Fld (List Nat) where
  P w B u x := OwnInts w B tI u (up x)
  one h := by
    obtain ⟨A, c, rfl, -⟩ := h.ints.open_
    cases A <;> rfl
  below h hb := h.below hb
  mono h hB := h.mono hB
  kept h hg hb h1 _ := h.kept hg (h.1.bt.ne hb h1)
section
variable {α β : Type}
/-- two fields and a count -/
def elt3 (F : Fld α) (G : Fld β) : Elt ((α × β) × Nat) where
  k := 3
  D w B c x := ∃ u s, c = [u, s, .int .i64 (x.2 : Nat)] ∧ F.P w B u x.1.1 ∧ G.P w B s x.1.2
  len h := by obtain ⟨u, s, rfl, -, -⟩ := h; rfl
  one h := by
    obtain ⟨u, s, rfl, h1, h2⟩ := h
    intro v hv
    simp at hv
    rcases hv with rfl | rfl | rfl
    · exact F.one h1
    · exact G.one h2
    · rfl
  below h hb := by obtain ⟨u, s, rfl, h1, h2⟩ := h; exact ⟨u, s, rfl, F.below h1 hb, G.below h2 hb⟩
  mono h hB := by obtain ⟨u, s, rfl, h1, h2⟩ := h; exact ⟨u, s, rfl, F.mono h1 hB, G.mono h2 hB⟩
  kept h hg hb h1' h2' := by obtain ⟨u, s, rfl, h1, h2⟩ := h; exact ⟨u, s, rfl, F.kept h1 hg hb h1' h2', G.kept h2 hg hb h1' h2'⟩
/-- .. where the count is n -/
def elt2 (F : Fld α) (G : Fld β) (n : Nat) : Elt (α × β) where
  k := 3
  D w B c x := (elt3 F G).D w B c (x, n)
  len h := (elt3 F G).len h
  one h := (elt3 F G).one h
  below h hb := (elt3 F G).below h hb
  mono h hB := (elt3 F G).mono h hB
  kept h hg hb h1 h2 := (elt3 F G).kept h hg hb h1 h2
end

/-- the program's comparison of forests, tree by tree -/
def cmpFL : List (List Nat) → List (List Nat) → Int
  | [], [] => 0
  | [], _ :: _ => -1
  | _ :: _, [] => 1
  | x :: xs, y :: ys => if cmpT (up x) (up y) = 0 then cmpFL xs ys else cmpT (up x) (up y)
theorem cmpT_bef {a b : List Nat} (h : cmpT (up a) (up b) ≠ 0) : (cmpT (up a) (up b) < 0 ∧ befN a b = true) ∨ (¬ cmpT (up a) (up b) < 0 ∧ befN a b = false ∧ befN b a = true) := by
  have h1 := cmpT_up a b
  have h2 := cmpT_zero a b
  by_cases hlt : cmpT (up a) (up b) < 0
  · left; exact ⟨hlt, by rw [← h1]; exact decide_eq_true hlt⟩
  · right
    have h3 : befN a b = false := by rw [← h1]; exact decide_eq_false hlt
    refine ⟨hlt, h3, ?_⟩
    cases h4 : befN b a with
    | true => rfl
    | false =>
      have := befN_tri h3 h4
      subst this
      rw [eqN_iff.2 rfl] at h2
      exact absurd (by simpa using h2) h
theorem cmpT_eq0 {a b : List Nat} : cmpT (up a) (up b) = 0 ↔ a = b := by
  have h2 := cmpT_zero a b
  constructor
  · intro h; rw [h] at h2; exact eqN_iff.1 h2.symm
  · rintro rfl; rw [eqN_iff.2 rfl] at h2; simpa using h2
theorem cmpFL_lt : ∀ a b : List (List Nat), decide (cmpFL a b < 0) = lexL befN a b
  | [], [] => by simp [cmpFL, lexL]
  | [], _ :: _ => by simp [cmpFL, lexL]
  | _ :: _, [] => by simp [cmpFL, lexL]
  | x :: xs, y :: ys => by
    rw [cmpFL, lexL]
    by_cases h : cmpT (up x) (up y) = 0
    · have := cmpT_eq0.1 h
      subst this
      rw [if_pos h, befN_irrefl, cmpFL_lt xs ys]; rfl
    · rw [if_neg h]
      rcases cmpT_bef h with ⟨h1, h2⟩ | ⟨h1, h2, h3⟩
      · rw [h2]; exact decide_eq_true h1
      · rw [h2, h3]; exact decide_eq_false h1
theorem cmpFL_zero : ∀ a b : List (List Nat), cmpFL a b = 0 ↔ a = b
  | [], [] => by simp [cmpFL]
  | [], _ :: _ => by simp [cmpFL]
  | _ :: _, [] => by simp [cmpFL]
  | x :: xs, y :: ys => by
    rw [cmpFL]
    by_cases h : cmpT (up x) (up y) = 0
    · rw [if_pos h, cmpFL_zero xs ys, cmpT_eq0.1 h]; simp
    · rw [if_neg h]
      constructor
      · intro h'; exact absurd h' h
      · intro h'; injection h' with h1 h2; exact absurd (cmpT_eq0.2 h1) h
theorem cmpFL_step {a b : List (List Nat)} {k : Nat} {x y : List Nat} (hx : a[k]? = some x) (hy : b[k]? = some y) : cmpFL (a.drop k) (b.drop k) = if cmpT (up x) (up y) = 0 then cmpFL (a.drop (k + 1)) (b.drop (k + 1)) else cmpT (up x) (up y) := by
  have e1 : a.drop k = x :: a.drop (k + 1) := by obtain ⟨hk, rfl⟩ := List.getElem?_eq_some_iff.1 hx; exact List.drop_eq_getElem_cons hk
  have e2 : b.drop k = y :: b.drop (k + 1) := by obtain ⟨hk, rfl⟩ := List.getElem?_eq_some_iff.1 hy; exact List.drop_eq_getElem_cons hk
  rw [e1, e2, cmpFL]

theorem rowsAt {w : World} {v : Value} {xs : List (List Nat)} (h : Rows w v (xs.map up)) : ∃ A c, v = .slice A xs.length c ∧ xs.length ≤ c ∧ c ≤ 9223372036854775807 ∧
    ∀ k, k < xs.length → ∃ ad q A5 c5, A = some ad ∧ xs[k]? = some q ∧ Ints w (.slice A5 q.length c5) (up q) ∧ w.cell? (ad.add k) = some (.slice A5 q.length c5) := by
  obtain ⟨A, c, rfl, l1, l2, h3⟩ := h.open_
  rw [List.length_map] at l1 h3
  refine ⟨A, c, by rw [List.length_map], l1, l2, fun k hk => ?_⟩
  obtain ⟨ad, u, zs, h1, h2, h4, h5⟩ := h3 k hk
  have hq : xs[k]? = some (xs[k]'hk) := List.getElem?_eq_getElem _
  rw [List.getElem?_map, hq] at h2
  injection h2 with h2
  subst h2
  obtain ⟨A5, c5, he5, -, -, -⟩ := h4.open_
  rw [up_len] at he5
  subst he5
  exact ⟨ad, _, A5, c5, h1, hq, h4, h5⟩

set_option maxHeartbeats 4000000 in
theorem lib_CompareTrees (w : World) (v v' : Value) (a b : List (List Nat)) (ha : Rows w v (a.map up)) (hb : Rows w v' (b.map up)) :
    Calls Try.prog 61 #[v, v', .func (.func 60) #[] #[]] w fun e w' => e = .returned (.int .i64 (cmpFL a b)) ∧ w = w' := by
  obtain ⟨A, c, rfl, l1, l2, h3⟩ := rowsAt ha
  obtain ⟨B, d, rfl, m1, m2, g3⟩ := rowsAt hb
  have H3 := Lib.hid h3
  have G3 := Lib.hid g3
  obtain ⟨R, hR⟩ : ∃ R, R = cmpFL a b := ⟨_, rfl⟩
  rw [← hR]
  have HR := Lib.hid hR
  clear ha hb h3 g3 hR
  go_enter Try.func61, Try.ntmps61
  go_wp2_with fail
  go_loopw [13] (fun i wr => ∃ k : Nat, k ≤ a.length ∧ k ≤ b.length ∧ i = .int .i64 k ∧ Hid (R = cmpFL (a.drop k) (b.drop k)) ∧ w = wr) (fun i _ => a.length - (intOf i).toNat)
  case atStart => exact ⟨0, Nat.zero_le _, Nat.zero_le _, rfl, HR.out, rfl⟩
  case round =>
    obtain ⟨k, hk, hkb, rfl, hI, rfl⟩ := hrel
    by_cases hlt : k < a.length
    · obtain ⟨ad, x, A5, c5, rfl, hx, hix, hcx⟩ := H3.out k hlt
      by_cases hlb : k < b.length
      · obtain ⟨ad', y, A6, c6, rfl, hy, hiy, hcy⟩ := G3.out k hlb
        have hs := hI.out.trans (cmpFL_step hx hy)
        have hct := i_compareTrees w _ _ _ _ hix hiy
        generalize cmpT (up x) (up y) = z at hs hct
        have HCT := Lib.hid hct
        have hng : ¬ (b.length : Int) ≤ (k : Int) := by omega
        clear hx hy hix hiy hct
        by_cases hz : z = 0
        · subst hz
          have HS := Lib.hid (show R = cmpFL (a.drop (k + 1)) (b.drop (k + 1)) from by rw [hs, if_pos rfl])
          clear hs
          go_wp2_with (go_at_call 60; refine HCT.out.mono ?_; rintro e w' ⟨rfl, rfl⟩)
          go_roundw
          case rel => exact ⟨k + 1, by omega, by omega, by go_num, HS.out, by first | rfl | trivial⟩
          case measure => simp [intOf]; omega
        · have HS := Lib.hid (show R = z from by rw [hs, if_neg hz])
          have hz2 : (z != 0) = true := by simpa using hz
          clear hs
          go_wp2_with (go_at_call 60; refine HCT.out.mono ?_; rintro e w' ⟨rfl, rfl⟩)
          go_ret
          exact ⟨ret_i64 HS.out.symm, rfl⟩
      · have hkb2 : k = b.length := by omega
        have HS := Lib.hid (show R = 1 from by
          have hne : a.drop k ≠ [] := fun h => by have := congrArg List.length h; simp at this; omega
          rw [hI.out, hkb2, List.drop_length, ← hkb2]
          cases hd : a.drop k with
          | nil => exact absurd hd hne
          | cons p ps => rfl)
        have hng : (b.length : Int) ≤ (k : Int) := by omega
        clear hkb2 hx hix
        go_wp2_with fail
        go_ret
        exact ⟨ret_i64 HS.out.symm, rfl⟩
    · have hka : k = a.length := by omega
      have hna : ¬ (k : Int) < (a.length : Int) := by omega
      by_cases hlb : a.length < b.length
      · have hlb' : (a.length : Int) < (b.length : Int) := by omega
        have HS := Lib.hid (show R = -1 from by
          have hne : b.drop k ≠ [] := fun h => by have := congrArg List.length h; simp at this; omega
          rw [hI.out, show a.drop k = [] from by rw [hka, List.drop_length]]
          cases hd : b.drop k with
          | nil => exact absurd hd hne
          | cons p ps => rfl)
        clear hka
        go_wp2_with fail
        go_ret
        exact ⟨ret_i64 HS.out.symm, rfl⟩
      · have hlb' : ¬ (a.length : Int) < (b.length : Int) := by omega
        have HS := Lib.hid (show R = 0 from by
          rw [hI.out, show a.drop k = [] from by rw [hka, List.drop_length], show b.drop k = [] from by rw [List.drop_eq_nil_iff]; omega]; rfl)
        clear hka
        go_wp2_with fail
        go_ret
        exact ⟨ret_i64 HS.out.symm, rfl⟩
end Go.Proofs.Ytofabikjjkapmaa

set_option maxRecDepth 100000
namespace Go.Proofs
open Go.Shelf Go.RowKit Go.Lib Go.Sort
def Try.psort_ren : Go.Shelf.Ren := ⟨fun | 6 => 62 | 15 => 87 | 14 => 86 | 28 => 103 | 29 => 104 | 20 => 95 | 21 => 96 | 22 => 97 | 23 => 98 | 24 => 99 | 25 => 100 | 26 => 101 | 27 => 102 | 46 => 123 | 47 => 124 | 48 => 125 | 49 => 126 | 50 => 127 | 57 => 135 | n => n, fun | 22 => 35 | 24 => 57 | 25 => 76 | 3 => 3 | 39 => 97 | 0 => 0 | 53 => 113 | 55 => 68 | 4 => 4 | 46 => 106 | 45 => 105 | 50 => 110 | 5 => 5 | 9 => 9 | 66 => 126 | 70 => 130 | 76 => 136 | 77 => 137 | n => n, fun | n => n⟩
theorem Try.psort : Go.Proofs.SlLaysF0.n6 Try.prog Try.psort_ren := {
  mixed := by kernel_rfl
  f6 := ⟨Try.f62.name, by decide, Try.func62.trans (congrArg some (by kernel_rfl))⟩
  f14 := ⟨Try.f86.name, by decide, Try.func86.trans (congrArg some (by kernel_rfl))⟩
  f15 := Try.func87.trans (congrArg some (by kernel_rfl))
  f20 := ⟨Try.f95.name, by decide, Try.func95.trans (congrArg some (by kernel_rfl))⟩
  f21 := ⟨Try.f96.name, by decide, Try.func96.trans (congrArg some (by kernel_rfl))⟩
  f22 := ⟨Try.f97.name, by decide, Try.func97.trans (congrArg some (by kernel_rfl))⟩
  f23 := ⟨Try.f98.name, by decide, Try.func98.trans (congrArg some (by kernel_rfl))⟩
  f24 := ⟨Try.f99.name, by decide, Try.func99.trans (congrArg some (by kernel_rfl))⟩
  f25 := ⟨Try.f100.name, by decide, Try.func100.trans (congrArg some (by kernel_rfl))⟩
  f26 := ⟨Try.f101.name, by decide, Try.func101.trans (congrArg some (by kernel_rfl))⟩
  f27 := ⟨Try.f102.name, by decide, Try.func102.trans (congrArg some (by kernel_rfl))⟩
  f28 := Try.func103.trans (congrArg some (by kernel_rfl))
  f29 := Try.func104.trans (congrArg some (by kernel_rfl))
  f46 := ⟨Try.f123.name, by decide, Try.func123.trans (congrArg some (by kernel_rfl))⟩
  f47 := Try.func124.trans (congrArg some (by kernel_rfl))
  f48 := Try.func125.trans (congrArg some (by kernel_rfl))
  f49 := ⟨Try.f126.name, by decide, Try.func126.trans (congrArg some (by kernel_rfl))⟩
  f50 := ⟨Try.f127.name, by decide, Try.func127.trans (congrArg some (by kernel_rfl))⟩
  f57 := ⟨Try.f135.name, by decide, Try.func135.trans (congrArg some (by kernel_rfl))⟩
  t0 := Try.underlying0
  a0 := Try.isAgg0
  z0 := Try.sizeOf0
  v0 := Try.zeroValue0
  t3 := Try.underlying3
  a3 := Try.isAgg3
  z3 := Try.sizeOf3
  v3 := Try.zeroValue3
  t4 := Try.underlying4
  a4 := Try.isAgg4
  z4 := Try.sizeOf4
  v4 := Try.zeroValue4
  t5 := Try.underlying5
  a5 := Try.isAgg5
  z5 := Try.sizeOf5
  v5 := Try.zeroValue5
  t9 := Try.underlying9
  a9 := Try.isAgg9
  z9 := Try.sizeOf9
  v9 := Try.zeroValue9
  t22 := Try.underlying35
  a22 := Try.isAgg35
  z22 := Try.sizeOf35
  v22 := Try.zeroValue35
  t25 := Try.underlying76
  a25 := Try.isAgg76
  z25 := Try.sizeOf76
  v25 := Try.zeroValue76
  t39 := Try.underlying97
  a39 := Try.isAgg97
  z39 := Try.sizeOf97
  v39 := Try.zeroValue97
  t45 := Try.underlying105
  a45 := Try.isAgg105
  z45 := Try.sizeOf105
  v45 := Try.zeroValue105
  t46 := Try.underlying106
  a46 := Try.isAgg106
  z46 := Try.sizeOf106
  v46 := Try.zeroValue106
  t50 := Try.underlying110
  a50 := Try.isAgg110
  z50 := Try.sizeOf110
  v50 := Try.zeroValue110
  t53 := Try.underlying113
  a53 := Try.isAgg113
  z53 := Try.sizeOf113
  v53 := Try.zeroValue113
  t55 := Try.underlying68
  a55 := Try.isAgg68
  z55 := Try.sizeOf68
  v55 := Try.zeroValue68
  t66 := Try.underlying126
  a66 := Try.isAgg126
  z66 := Try.sizeOf126
  v66 := Try.zeroValue126
  t70 := Try.underlying130
  a70 := Try.isAgg130
  z70 := Try.sizeOf130
  v70 := Try.zeroValue130
  t76 := Try.underlying136
  a76 := Try.isAgg136
  z76 := Try.sizeOf136
  v76 := Try.zeroValue136
  t77 := Try.underlying137
  a77 := Try.isAgg137
  z77 := Try.sizeOf137
  v77 := Try.zeroValue137 }
end Go.Proofs

set_option maxRecDepth 100000
set_option linter.unusedVariables false
set_option linter.unusedSimpArgs false
namespace Go.Proofs.Ytofabikjjkapmaa
open Go.RowKit Go.Sort Go.Shelf

abbrev tPt : TypeId := 57
/-- pieces and skeleton -/
abbrev PK := List (List Nat) × List Nat
def cmpP (x y : PK) : Int := if cmpT (up x.2) (up y.2) = 0 then cmpFL x.1 y.1 else cmpT (up x.2) (up y.2)
/-- partitions: by the skeletons, then by the pieces -/
def ltP (x y : PK) : Bool := lexP befN (lexL befN) (x.2, x.1) (y.2, y.1)
theorem STO.ltP : STO ltP := (STO.bef.lexP STO.bef.lexL).pull (f := fun x : PK => (x.2, x.1)) fun {a b} h => by obtain ⟨a1, a2⟩ := a; obtain ⟨b1, b2⟩ := b; injection h with h1 h2; have h1 : a2 = b2 := h1; have h2 : a1 = b1 := h2; rw [h1, h2]
theorem cmpP_lt (x y : PK) : decide (cmpP x y < 0) = ltP x y := by
  obtain ⟨x1, x2⟩ := x; obtain ⟨y1, y2⟩ := y
  unfold cmpP Go.Proofs.Ytofabikjjkapmaa.ltP lexP
  simp only
  by_cases h : cmpT (up x2) (up y2) = 0
  · have := cmpT_eq0.1 h
    subst this
    rw [if_pos h, befN_irrefl, cmpFL_lt]; rfl
  · rw [if_neg h]
    rcases cmpT_bef h with ⟨h1, h2⟩ | ⟨h1, h2, h3⟩
    · rw [h2]; exact decide_eq_true h1
    · rw [h2, h3]; exact decide_eq_false h1
theorem cmpP_zero (x y : PK) : cmpP x y = 0 ↔ x = y := by
  obtain ⟨x1, x2⟩ := x; obtain ⟨y1, y2⟩ := y
  unfold cmpP
  simp only
  by_cases h : cmpT (up x2) (up y2) = 0
  · rw [if_pos h, cmpFL_zero, cmpT_eq0.1 h]; simp
  · rw [if_neg h]
    constructor
    · intro h'; exact absurd h' h
    · intro h'; injection h' with h1 h2; exact absurd (cmpT_eq0.2 h2) h
abbrev ePt (n : Nat) : Elt PK := elt2 fldR fldI n
abbrev ePc : Elt (PK × Nat) := elt3 fldR fldI

set_option maxHeartbeats 4000000 in
theorem i_cmpPart (W : World) (B B' : Nat) (c c' : List Value) (x y : PK) (n m : Nat) (hx : ePc.D W B c (x, n)) (hy : ePc.D W B' c' (y, m)) :
    Calls Try.prog 59 #[.agg c.toArray, .agg c'.toArray] W fun e w' => e = .returned (.int .i64 (cmpP x y)) ∧ ∃ q os, w' = grow (W.drewN q) os := by
  obtain ⟨u, s, rfl, hu0, hs0⟩ := hx
  obtain ⟨u', s', rfl, hu0', hs0'⟩ := hy
  have hu := (show LA W B u (x.1.map up) from hu0).rows
  have hu' := (show LA W B' u' (y.1.map up) from hu0').rows
  have hs := (show OwnInts W B tI s (up x.2) from hs0).ints
  have hs' := (show OwnInts W B' tI s' (up y.2) from hs0').ints
  clear hu0 hu0' hs0 hs0'
  have HU := Lib.hid hu
  have HU' := Lib.hid hu'
  have HS := Lib.hid hs
  have HS' := Lib.hid hs'
  obtain ⟨A1, c1, rfl, -, -, -⟩ := hu.open_
  obtain ⟨A2, c2, rfl, -, -, -⟩ := hu'.open_
  obtain ⟨A3, c3, rfl, -, -, -⟩ := hs.open_
  obtain ⟨A4, c4, rfl, -, -, -⟩ := hs'.open_
  simp only [List.length_map, up_len] at HU HU' HS HS' ⊢
  obtain ⟨R, hR⟩ : ∃ R, R = cmpP x y := ⟨_, rfl⟩
  rw [← hR]
  have hR2 : R = if cmpT (up x.2) (up y.2) = 0 then cmpFL x.1 y.1 else cmpT (up x.2) (up y.2) := hR
  have hct := fun W h h' => i_compareTrees W (.slice A3 x.2.length c3) (.slice A4 y.2.length c4) (up x.2) (up y.2) h h'
  have HFL := Lib.hid (fun W h h' => lib_CompareTrees W (.slice A1 x.1.length c1) (.slice A2 y.1.length c2) x.1 y.1 h h')
  generalize cmpT (up x.2) (up y.2) = z at hR2 hct
  generalize cmpFL x.1 y.1 = z2 at hR2 HFL
  have HCT := Lib.hid hct
  clear hu hu' hs hs' hct hR
  have HBB := Lib.hid (fun o o' => show Below W.heap.size W ((W.alloc o).alloc o') from ((Below.refl W.heap.size W).alloc (Nat.le_refl _) _).alloc (by simp) _)
  by_cases hz : z = 0
  · subst hz
    rw [if_pos rfl] at hR2
    have HR := Lib.hid hR2
    clear hR2
    go_enter Try.func59, Try.ntmps59
    go_wp2_with (first
      | (go_at_call 60; go_loud (refine (HCT.out _ (HS.out.below (HBB.out _ _)) (HS'.out.below (HBB.out _ _))).mono ?_; rintro e w1 ⟨rfl, rfl⟩))
      | (go_at_call 61; go_loud (refine (HFL.out _ (HU.out.below (HBB.out _ _)) (HU'.out.below (HBB.out _ _))).mono ?_; rintro e w2 ⟨rfl, rfl⟩)))
    go_ret
    exact ⟨ret_i64 HR.out.symm, 0, _, by rw [alloc_eq_grow, alloc_eq_grow, grow_grow]; rfl⟩
  · rw [if_neg hz] at hR2
    have HR := Lib.hid hR2
    have hz2 : (z != 0) = true := by simpa using hz
    clear hR2
    go_enter Try.func59, Try.ntmps59
    go_wp2_with (first
      | (go_at_call 60; go_loud (refine (HCT.out _ (HS.out.below (HBB.out _ _)) (HS'.out.below (HBB.out _ _))).mono ?_; rintro e w1 ⟨rfl, rfl⟩)))
    go_ret
    exact ⟨ret_i64 HR.out.symm, 0, _, by rw [alloc_eq_grow, alloc_eq_grow, grow_grow]; rfl⟩

end Go.Proofs.Ytofabikjjkapmaa

set_option linter.unusedVariables false
set_option linter.unusedSimpArgs false
set_option maxRecDepth 100000
namespace Go.Proofs.Ytofabikjjkapmaa

/-- what the program knows of the nodes so far: the neighbours in the pieces, the piece of each node, the pieces' roots, the joints -/
structure CutS where
  near : List (List Nat)
  top : List Nat
  tops : List Nat
  bet : List (Nat × Nat)
def cutStep (mask : Nat) (s : CutS) (i p : Nat) : CutS :=
  match p with
  | 0 => ⟨s.near, s.top.set i s.tops.length, s.tops ++ [i], s.bet⟩
  | k + 1 => bif mask.testBit i then ⟨s.near, s.top.set i s.tops.length, s.tops ++ [i], s.bet ++ [(s.top.getD k 0, s.tops.length)]⟩
    else ⟨addAt i k (addAt k i s.near), s.top.set i (s.top.getD k 0), s.tops, s.bet⟩
def cutF (mask : Nat) (s : CutS) : List Nat → Nat → CutS
  | [], _ => s
  | p :: ps, i => cutF mask (cutStep mask s i p) ps (i + 1)
def cutN (t : List Nat) (mask : Nat) : CutS := cutF mask ⟨List.replicate t.length [], List.replicate t.length 0, [], []⟩ (parents t) 0
def joinF (near : List (List Nat)) : List (Nat × Nat) → List (List Nat)
  | [] => near
  | (a, b) :: es => joinF (addAt a b (addAt b a near)) es
def joinN (s : CutS) : List (List Nat) := joinF (List.replicate s.tops.length []) s.bet

/-- the nodes of a piece of the reference's: whether each is in it, and its list -/
def pieF (t : List Nat) (mask root : Nat) : List Nat → Nat → List Bool → List Nat → List Nat
  | [], _, _, out => out
  | l :: ls, i, inn, out =>
    let p := parN t l i
    bif Nat.blt root p && (inn.getD (p - 1) false && !mask.testBit i) then pieF t mask root ls (i + 1) (inn.set i true) (out ++ [l - t.getD root 0])
    else pieF t mask root ls (i + 1) inn out
def pieN (t : List Nat) (mask root : Nat) : List Nat := pieF t mask root (t.drop (root + 1)) (root + 1) ((List.replicate t.length false).set root true) [0]
/-- the nodes at which the reference cuts -/
def cutsN (mask : Nat) : Nat → Nat → List Nat
  | 0, _ => []
  | n + 1, i => bif mask.testBit i then i :: cutsN mask n (i + 1) else cutsN mask n (i + 1)
/-- the number of nodes with a cut on the way from a node (by one more than its place) to the root -/
def wayN (t : List Nat) (mask : Nat) : Nat → Nat → Nat
  | 0, _ => 0
  | f + 1, 0 => 0
  | f + 1, 1 => 0
  | f + 1, k + 2 => (bif mask.testBit (k + 1) then 1 else 0) + wayN t mask f (parN t (t.getD (k + 1) 0) (k + 1))
def sklN (t : List Nat) (mask : Nat) : List Nat := 0 :: (cutsN mask (t.length - 1) 1).map fun i => 1 + wayN t mask 9 (parN t (t.getD i 0) i)

def okCut (t : List Nat) (mask : Nat) : Bool :=
  let s := cutN t mask
  eqN s.tops (0 :: cutsN mask (t.length - 1) 1) && (s.tops.all (fun i => match rawO 9 s.near i 0 with | none => false | some q => eqN q (pieN t mask i) && Nat.ble q.length 8) &&
    match rawO 9 (joinN s) 0 0 with | none => false | some q => eqN q (sklN t mask) && Nat.ble q.length 8)
def isCan (t : List Nat) : Bool := match canO 9 t with | none => false | some r => eqN r t
def okTree (t : List Nat) : Bool := bif isCan t then (List.range (2 ^ (t.length - 1))).all fun m => okCut t (2 * m) else true
end Go.Proofs.Ytofabikjjkapmaa

set_option maxRecDepth 100000
set_option linter.unusedVariables false
set_option linter.unusedSimpArgs false
namespace Go.Proofs.Ytofabikjjkapmaa
open Go.RowKit

/-- a set of nodes of a tree with n nodes, without the root -/
def maskB (n : Nat) (m : Int) : Bool := decide (0 ≤ m) && (decide (m < 2 ^ n) && (m % 2 == 0))

end Go.Proofs.Ytofabikjjkapmaa

set_option maxRecDepth 100000
set_option linter.unusedVariables false
set_option linter.unusedSimpArgs false
namespace Go.Proofs.Ytofabikjjkapmaa
open Go.RowKit

/-- the code of a tree and a mask -/
def maskC (zs : List Int) (m : Int) : Int := if isT zs then (if maskB zs.length m then 0 else 2) else 1

end Go.Proofs.Ytofabikjjkapmaa

set_option maxRecDepth 100000
set_option linter.unusedVariables false
set_option linter.unusedSimpArgs false
namespace Go.Proofs.Ytofabikjjkapmaa
open Go.RowKit

theorem and1 (m : Int) (h0 : 0 ≤ m) (h1 : m ≤ 255) : bits BinOp.and IntKind.i64 m 1 = m % 2 := by
  have h := (by decide +kernel : ∀ k : Fin 256, bits BinOp.and IntKind.i64 ((k.val : Nat) : Int) 1 = ((k.val : Nat) : Int) % 2) ⟨m.toNat, by omega⟩
  simpa [Int.toNat_of_nonneg h0] using h

end Go.Proofs.Ytofabikjjkapmaa

set_option linter.unusedVariables false
set_option linter.unusedSimpArgs false
namespace Go.Proofs.Ytofabikjjkapmaa

theorem cutF_snoc (mask : Nat) : ∀ (s : CutS) (ps : List Nat) (i p : Nat), cutF mask s (ps ++ [p]) i = cutStep mask (cutF mask s ps i) (i + ps.length) p
  | s, [], i, p => rfl
  | s, q :: ps, i, p => by rw [List.cons_append, cutF, cutF, cutF_snoc mask _ ps (i + 1) p, List.length_cons]; congr 1; omega
def cutTo (t : List Nat) (mask j : Nat) : CutS := cutF mask ⟨List.replicate t.length [], List.replicate t.length 0, [], []⟩ ((parents t).take j) 0
theorem cutTo_succ {t : List Nat} {mask j : Nat} (hlt : j < t.length) : cutTo t mask (j + 1) = cutStep mask (cutTo t mask j) j (parN t (t.getD j 0) j) := by
  have htj : t[j]? = some (t[j]'hlt) := List.getElem?_eq_getElem _
  have hg : t.getD j 0 = t[j]'hlt := by simp [List.getD, htj]
  unfold cutTo
  rw [List.take_add_one, parents_get htj, hg]
  show cutF _ _ (_ ++ [_]) 0 = _
  rw [cutF_snoc, List.length_take, parents_len, Nat.min_eq_left (by omega), Nat.zero_add]
theorem cutTo_all (t : List Nat) (mask : Nat) : cutTo t mask t.length = cutN t mask := by
  unfold cutTo cutN
  rw [← parents_len, List.take_length, parents_len]

structure CI (n j : Nat) (s : CutS) : Prop where
  near : NB s.near (2 * j) n
  top : s.top.length = n ∧ ∀ x ∈ s.top, x ≤ s.tops.length
  tops : s.tops.length ≤ j ∧ ∀ x ∈ s.tops, x < n
  bet : s.bet.length ≤ j ∧ ∀ p ∈ s.bet, p.1 < s.tops.length ∧ p.2 < s.tops.length
theorem CI.start (n : Nat) : CI n 0 ⟨List.replicate n [], List.replicate n 0, [], []⟩ :=
  ⟨NB.nil _ _ _, ⟨by simp, fun x hx => by have := List.eq_of_mem_replicate hx; omega⟩, ⟨Nat.le_refl _, fun x hx => by simp at hx⟩, ⟨Nat.le_refl _, fun x hx => by simp at hx⟩⟩
theorem CI.topLe {n j : Nat} {s : CutS} (h : CI n j s) (k : Nat) : s.top.getD k 0 ≤ s.tops.length := by
  cases hx : s.top[k]? with
  | none => simp [List.getD, hx]
  | some x => have := h.top.2 x (List.mem_of_getElem? hx); simpa [List.getD, hx] using this
theorem CI.step {n j P mask : Nat} {s : CutS} (h : CI n j s) (hj : j < n) (hP : P ≤ j) : CI n (j + 1) (cutStep mask s j P) := by
  have hnew : ∀ x ∈ s.top.set j s.tops.length, x ≤ (s.tops ++ [j]).length := by
    intro x hx
    rcases List.mem_or_eq_of_mem_set hx with hx | hx
    · have := h.top.2 x hx; simp; omega
    · simp [hx]
  have htops : (s.tops ++ [j]).length ≤ j + 1 ∧ ∀ x ∈ s.tops ++ [j], x < n := by
    refine ⟨by have := h.tops.1; simp; omega, fun x hx => ?_⟩
    rcases List.mem_append.1 hx with hx | hx
    · exact h.tops.2 x hx
    · simp at hx; omega
  cases P with
  | zero =>
    exact ⟨h.near.mono (by omega), ⟨by simp [cutStep, h.top.1], hnew⟩, htops, ⟨by have := h.bet.1; show s.bet.length ≤ _; omega, fun p hp => by have := h.bet.2 p hp; simp [cutStep]; omega⟩⟩
  | succ k =>
    rw [cutStep]
    cases mask.testBit j with
    | true =>
      refine ⟨h.near.mono (by omega), ⟨by simp [h.top.1], hnew⟩, htops, ⟨by have := h.bet.1; simp; omega, fun p hp => ?_⟩⟩
      simp only [cond_true, List.length_append, List.length_singleton] at hp ⊢
      rcases List.mem_append.1 hp with hp | hp
      · have := h.bet.2 p hp; omega
      · simp at hp
        have := h.topLe k
        subst hp
        simp only [List.getD_eq_getElem?_getD] at this
        exact ⟨by simpa using Nat.lt_succ_of_le this, by simp⟩
    | false =>
      refine ⟨((h.near.add (x := k) (i := j) (by omega)).add (x := j) (i := k) hj).mono (by omega), ⟨by simp [h.top.1], fun x hx => ?_⟩, ⟨by have := h.tops.1; simp; omega, h.tops.2⟩, ⟨by have := h.bet.1; simp; omega, h.bet.2⟩⟩
      rcases List.mem_or_eq_of_mem_set hx with hx | hx
      · exact h.top.2 x hx
      · rw [hx]; exact h.topLe k
theorem cutTo_ci (t : List Nat) (mask : Nat) : ∀ j, j ≤ t.length → CI t.length j (cutTo t mask j)
  | 0, _ => CI.start _
  | j + 1, h => by rw [cutTo_succ (by omega)]; exact (cutTo_ci t mask j (by omega)).step (by omega) (parN_le _ _ _)

theorem joinF_snoc : ∀ (near : List (List Nat)) (es : List (Nat × Nat)) (a b : Nat), joinF near (es ++ [(a, b)]) = addAt a b (addAt b a (joinF near es))
  | near, [], a, b => rfl
  | near, (c, d) :: es, a, b => by rw [List.cons_append, joinF, joinF, joinF_snoc]
def joinTo (k : Nat) (es : List (Nat × Nat)) (j : Nat) : List (List Nat) := joinF (List.replicate k []) (es.take j)
theorem joinTo_succ {k j a b : Nat} {es : List (Nat × Nat)} (h : es[j]? = some (a, b)) : joinTo k es (j + 1) = addAt a b (addAt b a (joinTo k es j)) := by
  unfold joinTo
  rw [List.take_add_one, h]
  exact joinF_snoc _ _ _ _
theorem joinTo_all (s : CutS) : joinTo s.tops.length s.bet s.bet.length = joinN s := by
  unfold joinTo joinN
  rw [List.take_length]
theorem joinTo_nb {k : Nat} {es : List (Nat × Nat)} (h : ∀ p ∈ es, p.1 < k ∧ p.2 < k) : ∀ j, j ≤ es.length → NB (joinTo k es j) (2 * j) k
  | 0, _ => by unfold joinTo; exact NB.nil _ _ _
  | j + 1, hj => by
    have hp : es[j]? = some ((es[j]'(by omega)).1, (es[j]'(by omega)).2) := List.getElem?_eq_getElem _
    have hb := h _ (List.mem_of_getElem? hp)
    rw [joinTo_succ hp]
    exact (((joinTo_nb h j (by omega)).add hb.2).add hb.1).mono (by omega)

/-- the bit of a mask, as the program reckons it -/
theorem cut_bit (m j : Nat) (hm : m < 256) : bits BinOp.and IntKind.i64 ((m : Int) / 2 ^ j) 1 = if m.testBit j then 1 else 0 := by
  have e : ((m : Int) / 2 ^ j) = ((m / 2 ^ j : Nat) : Int) := by simp
  have hle : m / 2 ^ j ≤ m := Nat.div_le_self _ _
  rw [e, Nat.testBit_eq_decide_div_mod_eq]
  generalize m / 2 ^ j = q at hle ⊢
  rw [and1 _ (by omega) (by omega)]
  by_cases h : q % 2 = 1
  · simp [h]; omega
  · simp [h]; omega
end Go.Proofs.Ytofabikjjkapmaa

set_option maxRecDepth 100000
namespace Go.Proofs.Ytofabikjjkapmaa
theorem okc_s : (List.range 6).all (fun m => (levs m).all okTree) = true := by decide +kernel
theorem okc_0 : (((levs 6).drop 0).take 20).all okTree = true := by decide +kernel
theorem okc_1 : (((levs 6).drop 20).take 40).all okTree = true := by decide +kernel
theorem okc_2 : (((levs 6).drop 60).take 72).all okTree = true := by decide +kernel
theorem okc_3 : (((levs 7).drop 0).take 16).all okTree = true := by decide +kernel
theorem okc_4 : (((levs 7).drop 16).take 22).all okTree = true := by decide +kernel
theorem okc_5 : (((levs 7).drop 38).take 18).all okTree = true := by decide +kernel
end Go.Proofs.Ytofabikjjkapmaa

set_option maxRecDepth 100000
namespace Go.Proofs.Ytofabikjjkapmaa
theorem okc_6 : (((levs 7).drop 56).take 16).all okTree = true := by decide +kernel
theorem okc_7 : (((levs 7).drop 72).take 44).all okTree = true := by decide +kernel
theorem okc_8 : (((levs 7).drop 116).take 30).all okTree = true := by decide +kernel
theorem okc_9 : (((levs 7).drop 146).take 92).all okTree = true := by decide +kernel
theorem okc_10 : (((levs 7).drop 238).take 191).all okTree = true := by decide +kernel
end Go.Proofs.Ytofabikjjkapmaa

