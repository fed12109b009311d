/- Plain: sorting by insertion with numbers of equal ones gives what sorting and then putting equal ones together gives. No walk. | Walks: slices.CompareFunc at forests; words for structs of two lists and a count. | slices.SortFunc at partitions: laid. | Walks: the comparison of partitions; slices.SortFunc at partitions. | A region that draws its order, whose operations yield one value each in every world of a class S, and leave a world of S: one walk in the order of the text. No program in sight. -/
import Derived.Test.YtbjeibcombjfgaaQf33
import Derived.Test.YtbjeibcombjfgaaQf26
import Derived.Test.YtbjeibcombjfgaaQf6
import Derived.Shelf.SlSortCmp.WholeK
import Derived.Shelf.SlSortCmp.NoneTotal
import Derived.Shelf.SlGeneric
import Derived.Ground.SlsfProg
import Derived.BigQuiet
import Derived.Below
set_option linter.unusedVariables false
set_option linter.unusedSimpArgs false
namespace Go.Proofs.Ytbjeibcombjfgaa

/-- one more, put into its place -/
def ins1 {α : Type} (lt : α → α → Bool) (p : α) : List (α × Nat) → List (α × Nat)
  | [] => [(p, 1)]
  | x :: xs => bif lt x.1 p then x :: ins1 lt p xs else bif lt p x.1 then (p, 1) :: x :: xs else (x.1, x.2 + 1) :: xs
def insF {α : Type} (lt : α → α → Bool) (G : List (α × Nat)) : List α → List (α × Nat)
  | [] => G
  | p :: ps => insF lt (ins1 lt p G) ps
def xpd {α : Type} : List (α × Nat) → List α
  | [] => []
  | x :: xs => List.replicate x.2 x.1 ++ xpd xs
section
variable {α : Type} {lt : α → α → Bool}
/-- strictly ascending, with numbers above 0 -/
structure AscG (lt : α → α → Bool) (G : List (α × Nat)) : Prop where
  asc : G.Pairwise fun x y => lt x.1 y.1 = true
  pos : ∀ x ∈ G, 0 < x.2
theorem ins1_mem (p : α) : ∀ {G : List (α × Nat)} {x : α × Nat}, x ∈ ins1 lt p G → x.1 = p ∨ ∃ y ∈ G, y.1 = x.1
  | [], x, h => by
    unfold ins1 at h
    rw [List.mem_singleton] at h
    exact .inl (by rw [h])
  | y :: G, x, h => by
    unfold ins1 at h
    cases h1 : lt y.1 p with
    | true =>
      rw [h1, cond_true] at h
      rcases List.mem_cons.1 h with rfl | h
      · exact .inr ⟨x, List.mem_cons_self, rfl⟩
      · rcases ins1_mem p h with h | ⟨z, hz, e⟩
        · exact .inl h
        · exact .inr ⟨z, List.mem_cons_of_mem _ hz, e⟩
    | false =>
      rw [h1, cond_false] at h
      cases h2 : lt p y.1 with
      | true =>
        rw [h2, cond_true] at h
        rcases List.mem_cons.1 h with rfl | h
        · exact .inl rfl
        · exact .inr ⟨x, h, rfl⟩
      | false =>
        rw [h2, cond_false] at h
        rcases List.mem_cons.1 h with rfl | h
        · exact .inr ⟨y, List.mem_cons_self, rfl⟩
        · exact .inr ⟨x, List.mem_cons_of_mem _ h, rfl⟩
theorem ins1_asc (h : STO lt) (p : α) : ∀ {G : List (α × Nat)}, AscG lt G → AscG lt (ins1 lt p G)
  | [], _ => by
    refine ⟨?_, ?_⟩
    · exact List.pairwise_singleton _ _
    · intro x hx
      unfold ins1 at hx
      rw [List.mem_singleton] at hx
      rw [hx]; exact Nat.one_pos
  | y :: G, hG => by
    obtain ⟨a1, a2⟩ := List.pairwise_cons.1 hG.asc
    have hG' : AscG lt G := ⟨a2, fun x hx => hG.pos x (List.mem_cons_of_mem _ hx)⟩
    have ih := ins1_asc h p hG'
    unfold ins1
    cases h1 : lt y.1 p with
    | true =>
      rw [cond_true]
      refine ⟨List.pairwise_cons.2 ⟨fun x hx => ?_, ih.asc⟩, fun x hx => ?_⟩
      · rcases ins1_mem p hx with e | ⟨z, hz, e⟩
        · rw [e]; exact h1
        · rw [← e]; exact a1 z hz
      · rcases List.mem_cons.1 hx with rfl | hx
        · exact hG.pos _ List.mem_cons_self
        · exact ih.pos x hx
    | false =>
      rw [cond_false]
      cases h2 : lt p y.1 with
      | true =>
        rw [cond_true]
        refine ⟨List.pairwise_cons.2 ⟨fun x hx => ?_, hG.asc⟩, fun x hx => ?_⟩
        · rcases List.mem_cons.1 hx with rfl | hx
          · exact h2
          · exact h.trans h2 (a1 x hx)
        · rcases List.mem_cons.1 hx with rfl | hx
          · exact Nat.one_pos
          · exact hG.pos x hx
      | false =>
        rw [cond_false]
        refine ⟨List.pairwise_cons.2 ⟨fun x hx => a1 x hx, a2⟩, fun x hx => ?_⟩
        rcases List.mem_cons.1 hx with rfl | hx
        · exact Nat.succ_pos _
        · exact hG'.pos x hx
theorem ins1_xpd (h : STO lt) (p : α) : ∀ G : List (α × Nat), (xpd (ins1 lt p G)).Perm (p :: xpd G)
  | [] => by
    show (List.replicate 1 p ++ []).Perm [p]
    exact .refl _
  | y :: G => by
    unfold ins1
    cases h1 : lt y.1 p with
    | true =>
      rw [cond_true]
      show (List.replicate y.2 y.1 ++ xpd (ins1 lt p G)).Perm (p :: (List.replicate y.2 y.1 ++ xpd G))
      exact ((ins1_xpd h p G).append_left _).trans List.perm_middle
    | false =>
      rw [cond_false]
      cases h2 : lt p y.1 with
      | true => rw [cond_true]; exact .refl _
      | false =>
        rw [cond_false]
        have e : p = y.1 := h.tri h2 h1
        show (List.replicate (y.2 + 1) y.1 ++ xpd G).Perm (p :: (List.replicate y.2 y.1 ++ xpd G))
        rw [List.replicate_succ, e]
        exact .refl _
theorem insF_ok (h : STO lt) : ∀ (ps : List α) {G : List (α × Nat)}, AscG lt G → AscG lt (insF lt G ps) ∧ (xpd (insF lt G ps)).Perm (ps ++ xpd G)
  | [], G, hG => ⟨hG, .refl _⟩
  | p :: ps, G, hG => by
    obtain ⟨a, b⟩ := insF_ok h ps (ins1_asc h p hG)
    refine ⟨a, b.trans ?_⟩
    refine ((ins1_xpd h p G).append_left ps).trans ?_
    exact List.perm_middle
theorem xpd_mem : ∀ {G : List (α × Nat)} {z : α}, z ∈ xpd G → ∃ x ∈ G, x.1 = z
  | [], z, h => by cases h
  | x :: G, z, h => by
    rcases List.mem_append.1 h with h | h
    · exact ⟨x, List.mem_cons_self, (List.mem_replicate.1 h).2.symm⟩
    · obtain ⟨y, hy, e⟩ := xpd_mem h
      exact ⟨y, List.mem_cons_of_mem _ hy, e⟩
theorem xpd_asc (h : STO lt) : ∀ {G : List (α × Nat)}, AscG lt G → AscS lt (xpd G)
  | [], _ => List.Pairwise.nil
  | x :: G, hG => by
    obtain ⟨a1, a2⟩ := List.pairwise_cons.1 hG.asc
    refine List.pairwise_append.2 ⟨?_, xpd_asc h ⟨a2, fun y hy => hG.pos y (List.mem_cons_of_mem _ hy)⟩, fun a ha b hb => ?_⟩
    · refine List.pairwise_replicate.2 (.inr ?_)
      cases hb : lt x.1 x.1 with
      | false => rfl
      | true => have := h.asymm hb; rw [hb] at this; cases this
    · obtain ⟨y, hy, e⟩ := xpd_mem hb
      rw [(List.mem_replicate.1 ha).2, ← e]
      exact h.asymm (a1 y hy)
theorem grp_rep {cmp : α → α → Int} (hc : ∀ a, cmp a a = 0) (K : List (α × Nat)) (r : α) : ∀ (n m : Nat), (List.replicate n r).foldl (grpS cmp) (K ++ [(r, m)]) = K ++ [(r, m + n)]
  | 0, m => rfl
  | n + 1, m => by
    rw [List.replicate_succ, List.foldl_cons]
    have e : grpS cmp (K ++ [(r, m)]) r = K ++ [(r, m + 1)] := by
      rw [grpS_last (m := K.length) (r := r) (n := m) (by simp) (by simp), if_pos (hc r)]
      rw [List.set_append_right _ _ (Nat.le_refl _), Nat.sub_self]
      rfl
    rw [e, grp_rep hc K r n (m + 1), show m + 1 + n = m + (n + 1) by omega]
/-- putting equal ones of an expanded list together -/
theorem grpF_xpd {cmp : α → α → Int} (h : STO lt) (hc : ∀ a b, cmp a b = 0 ↔ a = b) : ∀ (G K : List (α × Nat)), AscG lt (K ++ G) → (xpd G).foldl (grpS cmp) K = K ++ G
  | [], K, _ => by rw [List.append_nil]; rfl
  | x :: G, K, hG => by
    obtain ⟨r, n⟩ := x
    show (List.replicate n r ++ xpd G).foldl (grpS cmp) K = _
    have hn : 0 < n := hG.pos (r, n) (by simp)
    obtain ⟨n', rfl⟩ : ∃ k, n = k + 1 := ⟨n - 1, by omega⟩
    have e1 : grpS cmp K r = K ++ [(r, 1)] := by
      rcases grpS_cases cmp K r with e | ⟨K', q, m, e, e0, -⟩
      · exact e
      · exfalso
        have hq := (hc _ _).1 e0
        have hp := (List.pairwise_append.1 hG.asc).2.2 (q, m) (by rw [e]; simp) (r, n' + 1) (by simp)
        simp only at hp
        rw [hq] at hp
        have := h.asymm hp
        rw [hp] at this; cases this
    rw [List.foldl_append, List.replicate_succ, List.foldl_cons, e1, grp_rep (fun a => (hc a a).2 rfl) K r n' 1, grpF_xpd h hc G (K ++ [(r, 1 + n')]) (by
      rw [List.append_assoc, Nat.add_comm 1 n']
      exact hG), List.append_assoc, Nat.add_comm 1 n']
    rfl
/-- the reference's list and the program's -/
theorem insF_grp {cmp : α → α → Int} (h : STO lt) (hc : ∀ a b, cmp a b = 0 ↔ a = b) (ps : List α) : insF lt [] ps = grpL cmp (srtS lt ps) := by
  obtain ⟨a, b⟩ := insF_ok h ps (G := []) ⟨List.Pairwise.nil, fun x hx => by cases hx⟩
  have e : xpd (insF lt [] ps) = srtS lt ps := srtS_unique h (by
    have : xpd ([] : List (α × Nat)) = [] := rfl
    rw [this, List.append_nil] at b
    exact b) (xpd_asc h a)
  rw [← e]
  exact (grpF_xpd h hc _ [] a).symm
end
end Go.Proofs.Ytbjeibcombjfgaa

set_option maxRecDepth 100000
set_option linter.unusedVariables false
set_option linter.unusedSimpArgs false
namespace Go.Proofs.Ytbjeibcombjfgaa
open Go.RowKit Go.Sort Go.Shelf

/-- a field that points to memory of its own -/
structure Fld (α : Type) where
  P : World → Nat → Value → α → Prop
  one : ∀ {w B u x}, P w B u x → u.oneCell' = true
  below : ∀ {w w' B u x}, P w B u x → Below w.heap.size w w' → P w' B u x
  mono : ∀ {w B B' u x}, P w B u x → B' ≤ B → P w B' u x
  kept : ∀ {w w' B u x} {e : TypeId} {v : Value}, P w B u x → w.grownBy w' v.ownBlock → BT w e v → tI ≠ e → tL ≠ e → P w' B u x
theorem LA.keptE {w w' : World} {B : Nat} {u v : Value} {e : TypeId} {xss : List (List Int)} (h : LA w B u xss) (hg : w.grownBy w' v.ownBlock) (hb : BT w e v) (h1 : tI ≠ e) (h2 : tL ≠ e) : LA w' B u xss := by
  obtain ⟨vs, a, b, c⟩ := h
  exact ⟨vs, a.kept hg (a.bt.ne hb h2), ⟨b.1, fun k u zs hu hz => (b.2 k u zs hu hz).kept hg ((b.2 k u zs hu hz).1.bt.ne hb h1)⟩, c⟩
def fldR : Fld (List (List Nat)) where
  P w B u x := LA w B u (x.map up)
  one h := by
    obtain ⟨A, c, rfl, -⟩ := h.rows.open_
    cases A <;> rfl
  below h hb := h.below hb
  mono h hB := h.mono hB
  kept h hg hb h1 h2 := h.keptE hg hb h1 h2
def fldI : Fld (List Nat) where
  P w B u x := OwnInts w B tI u (up x)
  one h := by
    obtain ⟨A, c, rfl, -⟩ := h.ints.open_
    cases A <;> rfl
  below h hb := h.below hb
  mono h hB := h.mono hB
  kept h hg hb h1 _ := h.kept hg (h.1.bt.ne hb h1)
section
variable {α β : Type}
/-- two fields and a count -/
def elt3 (F : Fld α) (G : Fld β) : Elt ((α × β) × Nat) where
  k := 3
  D w B c x := ∃ u s, c = [u, s, .int .i64 (x.2 : Nat)] ∧ F.P w B u x.1.1 ∧ G.P w B s x.1.2
  len h := by obtain ⟨u, s, rfl, -, -⟩ := h; rfl
  one h := by
    obtain ⟨u, s, rfl, h1, h2⟩ := h
    intro v hv
    simp at hv
    rcases hv with rfl | rfl | rfl
    · exact F.one h1
    · exact G.one h2
    · rfl
  below h hb := by obtain ⟨u, s, rfl, h1, h2⟩ := h; exact ⟨u, s, rfl, F.below h1 hb, G.below h2 hb⟩
  mono h hB := by obtain ⟨u, s, rfl, h1, h2⟩ := h; exact ⟨u, s, rfl, F.mono h1 hB, G.mono h2 hB⟩
  kept h hg hb h1' h2' := by obtain ⟨u, s, rfl, h1, h2⟩ := h; exact ⟨u, s, rfl, F.kept h1 hg hb h1' h2', G.kept h2 hg hb h1' h2'⟩
/-- .. where the count is n -/
def elt2 (F : Fld α) (G : Fld β) (n : Nat) : Elt (α × β) where
  k := 3
  D w B c x := (elt3 F G).D w B c (x, n)
  len h := (elt3 F G).len h
  one h := (elt3 F G).one h
  below h hb := (elt3 F G).below h hb
  mono h hB := (elt3 F G).mono h hB
  kept h hg hb h1 h2 := (elt3 F G).kept h hg hb h1 h2
end

/-- the program's comparison of forests, tree by tree -/
def cmpFL : List (List Nat) → List (List Nat) → Int
  | [], [] => 0
  | [], _ :: _ => -1
  | _ :: _, [] => 1
  | x :: xs, y :: ys => if cmpT (up x) (up y) = 0 then cmpFL xs ys else cmpT (up x) (up y)
theorem cmpT_bef {a b : List Nat} (h : cmpT (up a) (up b) ≠ 0) : (cmpT (up a) (up b) < 0 ∧ befN a b = true) ∨ (¬ cmpT (up a) (up b) < 0 ∧ befN a b = false ∧ befN b a = true) := by
  have h1 := cmpT_up a b
  have h2 := cmpT_zero a b
  by_cases hlt : cmpT (up a) (up b) < 0
  · left; exact ⟨hlt, by rw [← h1]; exact decide_eq_true hlt⟩
  · right
    have h3 : befN a b = false := by rw [← h1]; exact decide_eq_false hlt
    refine ⟨hlt, h3, ?_⟩
    cases h4 : befN b a with
    | true => rfl
    | false =>
      have := befN_tri h3 h4
      subst this
      rw [eqN_iff.2 rfl] at h2
      exact absurd (by simpa using h2) h
theorem cmpT_eq0 {a b : List Nat} : cmpT (up a) (up b) = 0 ↔ a = b := by
  have h2 := cmpT_zero a b
  constructor
  · intro h; rw [h] at h2; exact eqN_iff.1 h2.symm
  · rintro rfl; rw [eqN_iff.2 rfl] at h2; simpa using h2
theorem cmpFL_lt : ∀ a b : List (List Nat), decide (cmpFL a b < 0) = lexL befN a b
  | [], [] => by simp [cmpFL, lexL]
  | [], _ :: _ => by simp [cmpFL, lexL]
  | _ :: _, [] => by simp [cmpFL, lexL]
  | x :: xs, y :: ys => by
    rw [cmpFL, lexL]
    by_cases h : cmpT (up x) (up y) = 0
    · have := cmpT_eq0.1 h
      subst this
      rw [if_pos h, befN_irrefl, cmpFL_lt xs ys]; rfl
    · rw [if_neg h]
      rcases cmpT_bef h with ⟨h1, h2⟩ | ⟨h1, h2, h3⟩
      · rw [h2]; exact decide_eq_true h1
      · rw [h2, h3]; exact decide_eq_false h1
theorem cmpFL_zero : ∀ a b : List (List Nat), cmpFL a b = 0 ↔ a = b
  | [], [] => by simp [cmpFL]
  | [], _ :: _ => by simp [cmpFL]
  | _ :: _, [] => by simp [cmpFL]
  | x :: xs, y :: ys => by
    rw [cmpFL]
    by_cases h : cmpT (up x) (up y) = 0
    · rw [if_pos h, cmpFL_zero xs ys, cmpT_eq0.1 h]; simp
    · rw [if_neg h]
      constructor
      · intro h'; exact absurd h' h
      · intro h'; injection h' with h1 h2; exact absurd (cmpT_eq0.2 h1) h
theorem cmpFL_step {a b : List (List Nat)} {k : Nat} {x y : List Nat} (hx : a[k]? = some x) (hy : b[k]? = some y) : cmpFL (a.drop k) (b.drop k) = if cmpT (up x) (up y) = 0 then cmpFL (a.drop (k + 1)) (b.drop (k + 1)) else cmpT (up x) (up y) := by
  have e1 : a.drop k = x :: a.drop (k + 1) := by obtain ⟨hk, rfl⟩ := List.getElem?_eq_some_iff.1 hx; exact List.drop_eq_getElem_cons hk
  have e2 : b.drop k = y :: b.drop (k + 1) := by obtain ⟨hk, rfl⟩ := List.getElem?_eq_some_iff.1 hy; exact List.drop_eq_getElem_cons hk
  rw [e1, e2, cmpFL]

theorem rowsAt {w : World} {v : Value} {xs : List (List Nat)} (h : Rows w v (xs.map up)) : ∃ A c, v = .slice A xs.length c ∧ xs.length ≤ c ∧ c ≤ 9223372036854775807 ∧
    ∀ k, k < xs.length → ∃ ad q A5 c5, A = some ad ∧ xs[k]? = some q ∧ Ints w (.slice A5 q.length c5) (up q) ∧ w.cell? (ad.add k) = some (.slice A5 q.length c5) := by
  obtain ⟨A, c, rfl, l1, l2, h3⟩ := h.open_
  rw [List.length_map] at l1 h3
  refine ⟨A, c, by rw [List.length_map], l1, l2, fun k hk => ?_⟩
  obtain ⟨ad, u, zs, h1, h2, h4, h5⟩ := h3 k hk
  have hq : xs[k]? = some (xs[k]'hk) := List.getElem?_eq_getElem _
  rw [List.getElem?_map, hq] at h2
  injection h2 with h2
  subst h2
  obtain ⟨A5, c5, he5, -, -, -⟩ := h4.open_
  rw [up_len] at he5
  subst he5
  exact ⟨ad, _, A5, c5, h1, hq, h4, h5⟩

set_option maxHeartbeats 4000000 in
theorem lib_CompareTrees (w : World) (v v' : Value) (a b : List (List Nat)) (ha : Rows w v (a.map up)) (hb : Rows w v' (b.map up)) :
    Calls Try.prog 176 #[v, v', .func (.func 150) #[] #[]] w fun e w' => e = .returned (.int .i64 (cmpFL a b)) ∧ w = w' := by
  obtain ⟨A, c, rfl, l1, l2, h3⟩ := rowsAt ha
  obtain ⟨B, d, rfl, m1, m2, g3⟩ := rowsAt hb
  have H3 := Lib.hid h3
  have G3 := Lib.hid g3
  obtain ⟨R, hR⟩ : ∃ R, R = cmpFL a b := ⟨_, rfl⟩
  rw [← hR]
  have HR := Lib.hid hR
  clear ha hb h3 g3 hR
  go_enter Try.func176, Try.ntmps176
  go_wp2_with fail
  go_loopw [13] (fun i wr => ∃ k : Nat, k ≤ a.length ∧ k ≤ b.length ∧ i = .int .i64 k ∧ Hid (R = cmpFL (a.drop k) (b.drop k)) ∧ w = wr) (fun i _ => a.length - (intOf i).toNat)
  case atStart => exact ⟨0, Nat.zero_le _, Nat.zero_le _, rfl, HR.out, rfl⟩
  case round =>
    obtain ⟨k, hk, hkb, rfl, hI, rfl⟩ := hrel
    by_cases hlt : k < a.length
    · obtain ⟨ad, x, A5, c5, rfl, hx, hix, hcx⟩ := H3.out k hlt
      by_cases hlb : k < b.length
      · obtain ⟨ad', y, A6, c6, rfl, hy, hiy, hcy⟩ := G3.out k hlb
        have hs := hI.out.trans (cmpFL_step hx hy)
        have hct := i_compareTrees w _ _ _ _ hix hiy
        generalize cmpT (up x) (up y) = z at hs hct
        have HCT := Lib.hid hct
        have hng : ¬ (b.length : Int) ≤ (k : Int) := by omega
        clear hx hy hix hiy hct
        by_cases hz : z = 0
        · subst hz
          have HS := Lib.hid (show R = cmpFL (a.drop (k + 1)) (b.drop (k + 1)) from by rw [hs, if_pos rfl])
          clear hs
          go_wp2_with (go_at_call 150; refine HCT.out.mono ?_; rintro e w' ⟨rfl, rfl⟩)
          go_roundw
          case rel => exact ⟨k + 1, by omega, by omega, by go_num, HS.out, by first | rfl | trivial⟩
          case measure => simp [intOf]; omega
        · have HS := Lib.hid (show R = z from by rw [hs, if_neg hz])
          have hz2 : (z != 0) = true := by simpa using hz
          clear hs
          go_wp2_with (go_at_call 150; refine HCT.out.mono ?_; rintro e w' ⟨rfl, rfl⟩)
          go_ret
          exact ⟨ret_i64 HS.out.symm, rfl⟩
      · have hkb2 : k = b.length := by omega
        have HS := Lib.hid (show R = 1 from by
          have hne : a.drop k ≠ [] := fun h => by have := congrArg List.length h; simp at this; omega
          rw [hI.out, hkb2, List.drop_length, ← hkb2]
          cases hd : a.drop k with
          | nil => exact absurd hd hne
          | cons p ps => rfl)
        have hng : (b.length : Int) ≤ (k : Int) := by omega
        clear hkb2 hx hix
        go_wp2_with fail
        go_ret
        exact ⟨ret_i64 HS.out.symm, rfl⟩
    · have hka : k = a.length := by omega
      have hna : ¬ (k : Int) < (a.length : Int) := by omega
      by_cases hlb : a.length < b.length
      · have hlb' : (a.length : Int) < (b.length : Int) := by omega
        have HS := Lib.hid (show R = -1 from by
          have hne : b.drop k ≠ [] := fun h => by have := congrArg List.length h; simp at this; omega
          rw [hI.out, show a.drop k = [] from by rw [hka, List.drop_length]]
          cases hd : b.drop k with
          | nil => exact absurd hd hne
          | cons p ps => rfl)
        clear hka
        go_wp2_with fail
        go_ret
        exact ⟨ret_i64 HS.out.symm, rfl⟩
      · have hlb' : ¬ (a.length : Int) < (b.length : Int) := by omega
        have HS := Lib.hid (show R = 0 from by
          rw [hI.out, show a.drop k = [] from by rw [hka, List.drop_length], show b.drop k = [] from by rw [List.drop_eq_nil_iff]; omega]; rfl)
        clear hka
        go_wp2_with fail
        go_ret
        exact ⟨ret_i64 HS.out.symm, rfl⟩
end Go.Proofs.Ytbjeibcombjfgaa

set_option maxRecDepth 100000
namespace Go.Proofs
open Go.Shelf Go.RowKit Go.Lib Go.Sort
def Try.psort_ren : Go.Shelf.Ren := ⟨fun | 6 => 177 | 15 => 204 | 14 => 208 | 28 => 227 | 29 => 228 | 20 => 230 | 21 => 231 | 22 => 232 | 23 => 233 | 24 => 234 | 25 => 235 | 26 => 236 | 27 => 237 | 46 => 246 | 47 => 242 | 48 => 243 | 49 => 247 | 50 => 248 | 57 => 252 | n => n, fun | 22 => 59 | 24 => 63 | 25 => 142 | 3 => 3 | 39 => 105 | 0 => 0 | 53 => 174 | 55 => 64 | 4 => 4 | 46 => 168 | 45 => 167 | 50 => 139 | 5 => 5 | 9 => 9 | 66 => 181 | 70 => 185 | 76 => 191 | 77 => 192 | n => n, fun | n => n⟩
theorem Try.psort : Go.Proofs.SlLaysF0.n6 Try.prog Try.psort_ren := {
  mixed := by kernel_rfl
  f6 := ⟨Try.f177.name, by decide, Try.func177.trans (congrArg some (by kernel_rfl))⟩
  f14 := ⟨Try.f208.name, by decide, Try.func208.trans (congrArg some (by kernel_rfl))⟩
  f15 := Try.func204.trans (congrArg some (by kernel_rfl))
  f20 := ⟨Try.f230.name, by decide, Try.func230.trans (congrArg some (by kernel_rfl))⟩
  f21 := ⟨Try.f231.name, by decide, Try.func231.trans (congrArg some (by kernel_rfl))⟩
  f22 := ⟨Try.f232.name, by decide, Try.func232.trans (congrArg some (by kernel_rfl))⟩
  f23 := ⟨Try.f233.name, by decide, Try.func233.trans (congrArg some (by kernel_rfl))⟩
  f24 := ⟨Try.f234.name, by decide, Try.func234.trans (congrArg some (by kernel_rfl))⟩
  f25 := ⟨Try.f235.name, by decide, Try.func235.trans (congrArg some (by kernel_rfl))⟩
  f26 := ⟨Try.f236.name, by decide, Try.func236.trans (congrArg some (by kernel_rfl))⟩
  f27 := ⟨Try.f237.name, by decide, Try.func237.trans (congrArg some (by kernel_rfl))⟩
  f28 := Try.func227.trans (congrArg some (by kernel_rfl))
  f29 := Try.func228.trans (congrArg some (by kernel_rfl))
  f46 := ⟨Try.f246.name, by decide, Try.func246.trans (congrArg some (by kernel_rfl))⟩
  f47 := Try.func242.trans (congrArg some (by kernel_rfl))
  f48 := Try.func243.trans (congrArg some (by kernel_rfl))
  f49 := ⟨Try.f247.name, by decide, Try.func247.trans (congrArg some (by kernel_rfl))⟩
  f50 := ⟨Try.f248.name, by decide, Try.func248.trans (congrArg some (by kernel_rfl))⟩
  f57 := ⟨Try.f252.name, by decide, Try.func252.trans (congrArg some (by kernel_rfl))⟩
  t0 := Try.underlying0
  a0 := Try.isAgg0
  z0 := Try.sizeOf0
  v0 := Try.zeroValue0
  t3 := Try.underlying3
  a3 := Try.isAgg3
  z3 := Try.sizeOf3
  v3 := Try.zeroValue3
  t4 := Try.underlying4
  a4 := Try.isAgg4
  z4 := Try.sizeOf4
  v4 := Try.zeroValue4
  t5 := Try.underlying5
  a5 := Try.isAgg5
  z5 := Try.sizeOf5
  v5 := Try.zeroValue5
  t9 := Try.underlying9
  a9 := Try.isAgg9
  z9 := Try.sizeOf9
  v9 := Try.zeroValue9
  t22 := Try.underlying59
  a22 := Try.isAgg59
  z22 := Try.sizeOf59
  v22 := Try.zeroValue59
  t25 := Try.underlying142
  a25 := Try.isAgg142
  z25 := Try.sizeOf142
  v25 := Try.zeroValue142
  t39 := Try.underlying105
  a39 := Try.isAgg105
  z39 := Try.sizeOf105
  v39 := Try.zeroValue105
  t45 := Try.underlying167
  a45 := Try.isAgg167
  z45 := Try.sizeOf167
  v45 := Try.zeroValue167
  t46 := Try.underlying168
  a46 := Try.isAgg168
  z46 := Try.sizeOf168
  v46 := Try.zeroValue168
  t50 := Try.underlying139
  a50 := Try.isAgg139
  z50 := Try.sizeOf139
  v50 := Try.zeroValue139
  t53 := Try.underlying174
  a53 := Try.isAgg174
  z53 := Try.sizeOf174
  v53 := Try.zeroValue174
  t55 := Try.underlying64
  a55 := Try.isAgg64
  z55 := Try.sizeOf64
  v55 := Try.zeroValue64
  t66 := Try.underlying181
  a66 := Try.isAgg181
  z66 := Try.sizeOf181
  v66 := Try.zeroValue181
  t70 := Try.underlying185
  a70 := Try.isAgg185
  z70 := Try.sizeOf185
  v70 := Try.zeroValue185
  t76 := Try.underlying191
  a76 := Try.isAgg191
  z76 := Try.sizeOf191
  v76 := Try.zeroValue191
  t77 := Try.underlying192
  a77 := Try.isAgg192
  z77 := Try.sizeOf192
  v77 := Try.zeroValue192 }
end Go.Proofs

set_option maxRecDepth 100000
set_option linter.unusedVariables false
set_option linter.unusedSimpArgs false
namespace Go.Proofs.Ytbjeibcombjfgaa
open Go.RowKit Go.Sort Go.Shelf

abbrev tPt : TypeId := 63
/-- pieces and skeleton -/
abbrev PK := List (List Nat) × List Nat
def cmpP (x y : PK) : Int := if cmpT (up x.2) (up y.2) = 0 then cmpFL x.1 y.1 else cmpT (up x.2) (up y.2)
/-- partitions: by the skeletons, then by the pieces -/
def ltP (x y : PK) : Bool := lexP befN (lexL befN) (x.2, x.1) (y.2, y.1)
theorem STO.ltP : STO ltP := (STO.bef.lexP STO.bef.lexL).pull (f := fun x : PK => (x.2, x.1)) fun {a b} h => by obtain ⟨a1, a2⟩ := a; obtain ⟨b1, b2⟩ := b; injection h with h1 h2; have h1 : a2 = b2 := h1; have h2 : a1 = b1 := h2; rw [h1, h2]
theorem cmpP_lt (x y : PK) : decide (cmpP x y < 0) = ltP x y := by
  obtain ⟨x1, x2⟩ := x; obtain ⟨y1, y2⟩ := y
  unfold cmpP Go.Proofs.Ytbjeibcombjfgaa.ltP lexP
  simp only
  by_cases h : cmpT (up x2) (up y2) = 0
  · have := cmpT_eq0.1 h
    subst this
    rw [if_pos h, befN_irrefl, cmpFL_lt]; rfl
  · rw [if_neg h]
    rcases cmpT_bef h with ⟨h1, h2⟩ | ⟨h1, h2, h3⟩
    · rw [h2]; exact decide_eq_true h1
    · rw [h2, h3]; exact decide_eq_false h1
theorem cmpP_zero (x y : PK) : cmpP x y = 0 ↔ x = y := by
  obtain ⟨x1, x2⟩ := x; obtain ⟨y1, y2⟩ := y
  unfold cmpP
  simp only
  by_cases h : cmpT (up x2) (up y2) = 0
  · rw [if_pos h, cmpFL_zero, cmpT_eq0.1 h]; simp
  · rw [if_neg h]
    constructor
    · intro h'; exact absurd h' h
    · intro h'; injection h' with h1 h2; exact absurd (cmpT_eq0.2 h2) h
abbrev ePt (n : Nat) : Elt PK := elt2 fldR fldI n
abbrev ePc : Elt (PK × Nat) := elt3 fldR fldI

set_option maxHeartbeats 4000000 in
theorem i_cmpPart (W : World) (B B' : Nat) (c c' : List Value) (x y : PK) (n m : Nat) (hx : ePc.D W B c (x, n)) (hy : ePc.D W B' c' (y, m)) :
    Calls Try.prog 175 #[.agg c.toArray, .agg c'.toArray] W fun e w' => e = .returned (.int .i64 (cmpP x y)) ∧ ∃ q os, w' = grow (W.drewN q) os := by
  obtain ⟨u, s, rfl, hu0, hs0⟩ := hx
  obtain ⟨u', s', rfl, hu0', hs0'⟩ := hy
  have hu := (show LA W B u (x.1.map up) from hu0).rows
  have hu' := (show LA W B' u' (y.1.map up) from hu0').rows
  have hs := (show OwnInts W B tI s (up x.2) from hs0).ints
  have hs' := (show OwnInts W B' tI s' (up y.2) from hs0').ints
  clear hu0 hu0' hs0 hs0'
  have HU := Lib.hid hu
  have HU' := Lib.hid hu'
  have HS := Lib.hid hs
  have HS' := Lib.hid hs'
  obtain ⟨A1, c1, rfl, -, -, -⟩ := hu.open_
  obtain ⟨A2, c2, rfl, -, -, -⟩ := hu'.open_
  obtain ⟨A3, c3, rfl, -, -, -⟩ := hs.open_
  obtain ⟨A4, c4, rfl, -, -, -⟩ := hs'.open_
  simp only [List.length_map, up_len] at HU HU' HS HS' ⊢
  obtain ⟨R, hR⟩ : ∃ R, R = cmpP x y := ⟨_, rfl⟩
  rw [← hR]
  have hR2 : R = if cmpT (up x.2) (up y.2) = 0 then cmpFL x.1 y.1 else cmpT (up x.2) (up y.2) := hR
  have hct := fun W h h' => i_compareTrees W (.slice A3 x.2.length c3) (.slice A4 y.2.length c4) (up x.2) (up y.2) h h'
  have HFL := Lib.hid (fun W h h' => lib_CompareTrees W (.slice A1 x.1.length c1) (.slice A2 y.1.length c2) x.1 y.1 h h')
  generalize cmpT (up x.2) (up y.2) = z at hR2 hct
  generalize cmpFL x.1 y.1 = z2 at hR2 HFL
  have HCT := Lib.hid hct
  clear hu hu' hs hs' hct hR
  have HBB := Lib.hid (fun o o' => show Below W.heap.size W ((W.alloc o).alloc o') from ((Below.refl W.heap.size W).alloc (Nat.le_refl _) _).alloc (by simp) _)
  by_cases hz : z = 0
  · subst hz
    rw [if_pos rfl] at hR2
    have HR := Lib.hid hR2
    clear hR2
    go_enter Try.func175, Try.ntmps175
    go_wp2_with (first
      | (go_at_call 150; go_loud (refine (HCT.out _ (HS.out.below (HBB.out _ _)) (HS'.out.below (HBB.out _ _))).mono ?_; rintro e w1 ⟨rfl, rfl⟩))
      | (go_at_call 176; go_loud (refine (HFL.out _ (HU.out.below (HBB.out _ _)) (HU'.out.below (HBB.out _ _))).mono ?_; rintro e w2 ⟨rfl, rfl⟩)))
    go_ret
    exact ⟨ret_i64 HR.out.symm, 0, _, by rw [alloc_eq_grow, alloc_eq_grow, grow_grow]; rfl⟩
  · rw [if_neg hz] at hR2
    have HR := Lib.hid hR2
    have hz2 : (z != 0) = true := by simpa using hz
    clear hR2
    go_enter Try.func175, Try.ntmps175
    go_wp2_with (first
      | (go_at_call 150; go_loud (refine (HCT.out _ (HS.out.below (HBB.out _ _)) (HS'.out.below (HBB.out _ _))).mono ?_; rintro e w1 ⟨rfl, rfl⟩)))
    go_ret
    exact ⟨ret_i64 HR.out.symm, 0, _, by rw [alloc_eq_grow, alloc_eq_grow, grow_grow]; rfl⟩

theorem lib_SortPart (w : World) (B cap : Nat) (A : Option Addr) (css : List (List Value)) (xs : List PK) (h : OwnK w B tPt 3 (.slice A css.length cap) css) (hr : Elts (ePt 1) w B css xs) (hn : css.length ≤ 1000000) :
    Calls Try.prog 177 #[.slice A css.length cap, .func (.func 175) #[] #[]] w fun e w' => e = .returned (.tuple #[]) ∧
      ∃ css', css'.length = css.length ∧ OwnK w' B tPt 3 (.slice A css.length cap) css' ∧ Elts (ePt 1) w' B css' (srtS ltP xs) ∧ w.grownBy w' (Value.ownBlock (.slice A css.length cap)) := by
  have aE : ∀ w, (isAgg tPt).run Try.prog w = .ok true w := fun w => by kernel_rfl
  have zE : ∀ w, (Go.sizeOf tPt).run Try.prog w = .ok 3 w := fun w => by kernel_rfl
  have eg : ∀ args w, (callFunc 175 args).run Try.prog w = .ok (.enter 175 args) w := enters_of Try.func175 (by kernel_rfl) rfl
  exact sort_elts Try.psort (ePt 1) (e := tPt) aE zE ltP STO.ltP cmpP cmpP_lt 175 eg (by decide) (by decide) (fun W B c c' x y hx hy => i_cmpPart W B B c c' x y 1 1 hx hy) w B cap A css xs h hr hn
end Go.Proofs.Ytbjeibcombjfgaa

set_option linter.unusedVariables false
set_option linter.unusedSimpArgs false
namespace Go.Proofs.Ytbjeibcombjfgaa
open Go Go.RowKit

/-- a world of the class -/
structure GW (S : World → Prop) where
  w : World
  h : S w

theorem wp_region_grow {P : Program} {id : Nat} {Q : Exit → Act → World → Prop} {a : Act} {w : World} {l : List Oper} (S : World → Prop) (hm : P.follows .mixedOrders = true) (hB : Region.lexB .any l.toArray = true) (hC : S w.drew)
    (h : Nonempty (GW S) → wpQuiet P l.toArray (fun w' => ∃ x : GW S, w' = x.w) (fun a' => ∀ w', (∃ x : GW S, w' = x.w) → Q .normal a' w') l a) : (Code.region id l.toArray true).wp P Q a w :=
  wp_region_quiet (C := fun w' => ∃ x : GW S, w' = x.w) hm hB ⟨⟨_, hC⟩, rfl⟩ (by simpa using h ⟨⟨_, hC⟩⟩)

/-- a callee that leaves a world of the class -/
theorem grow_call {P : Program} {f : FuncId} {args : Array Value} {w : World} {v : Value} {S : World → Prop} (h : Calls P f args w fun e w' => e = .returned v ∧ S w') : Calls P f args w fun e w'' => e = .returned v ∧ ∃ x : GW S, w'' = x.w :=
  h.mono fun _ w' ⟨he, hw⟩ => ⟨he, ⟨w', hw⟩, rfl⟩
end Go.Proofs.Ytbjeibcombjfgaa

