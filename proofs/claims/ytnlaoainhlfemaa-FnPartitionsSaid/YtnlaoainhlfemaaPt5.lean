/- Walk: rootOn of the program. | A list of one's own that the library has sorted. | Plain: the order of lists of levels; two descending lists of the same elements are one. | Plain: the order of trees, and lists of trees in it. | Plain: strict total orders, lexicographic ones among them; sorting by insertion. | Lists of one's own of structs of k cells, over what an element's cells say; such a list sorted by the library. No program in sight. -/
import Derived.Test.YtnlaoainhlfemaaPt4
import Derived.Shelf.GgSortFunc.Insertion
import Derived.Test.YtnlaoainhlfemaaPt2
import Derived.Test.YtnlaoainhlfemaaPt3
import Derived.Shelf.SlSortCmp.WholeK
import Derived.Shelf.SlSortCmp.NoneTotal
set_option maxRecDepth 100000
set_option linter.unusedVariables false
set_option linter.unusedSimpArgs false
namespace Go.Proofs.Ytnlaoainhlfemaa
open Go.RowKit

set_option maxHeartbeats 4000000 in
theorem i_rootOn (w : World) (v : Value) (ss : List (List Nat)) (ha : Rows w v (ss.map up)) (hsb : ∀ q ∈ ss, q.length ≤ 1000 ∧ ∀ l ∈ q, l < 1000000) (hbt : brLen ss ≤ 1000) (hn : ss.length ≤ 1000) :
    Calls Try.prog 126 #[v] w fun e w' => ∃ x, e = .returned x ∧ OwnInts w' w.heap.size tI x (up (rootN ss)) ∧ Below w.heap.size w w' := by
  obtain ⟨A, c, rfl, l1, l2, h3⟩ := ha.open_
  rw [List.length_map] at h3 l1 ⊢
  have H3 := Lib.hid h3
  have HSB := Lib.hid hsb
  have HBT := Lib.hid (show ∀ j, brLen (ss.take j) ≤ 1000 from fun j => by
    have h1 := congrArg brLen (List.take_append_drop j ss)
    rw [brLen_append] at h1
    omega)
  have OL2 := Lib.hid (show OwnInts (w.alloc (.cells #[.int .i64 0] tI)) w.heap.size tI (.slice (some ⟨w.heap.size, 0, none⟩) 1 1) [0] from ⟨own_lit w tI [.int .i64 0] (by simp [maxLen]), fun z hz => by simp at hz; subst hz; unfold In64; omega⟩)
  clear ha h3 hsb hbt
  go_enter Try.func126, Try.ntmps126
  go_wp2_with fail
  go_loopw [3, 11] (fun o i wq => ∃ j : Nat, j ≤ ss.length ∧ i = .int .i64 j ∧ OwnInts wq w.heap.size tI o (up (0 :: bumps (ss.take j))) ∧ Below w.heap.size w wq) (fun _ i _ => ss.length - (intOf i).toNat)
  case atStart => exact ⟨0, Nat.zero_le _, rfl, by simpa [up, bumps] using OL2.out, below1 _ _⟩
  case round =>
    obtain ⟨j, hj, rfl, ho, hb⟩ := hrel
    clear OL2
    have HOI := Lib.hid ho
    have HBQ := Lib.hid hb
    clear ho hb
    by_cases hlt : j < ss.length
    · obtain ⟨ad', u, zs, rfl, hz, hu, hc'⟩ := H3.out j hlt
      have hq : ss[j]? = some (ss[j]'hlt) := List.getElem?_eq_getElem _
      have hzq : zs = up (ss[j]'hlt) := by rw [List.getElem?_map, hq] at hz; injection hz with hz; exact hz.symm
      subst hzq
      obtain ⟨Aq, cq, heq, l1, l2, hcq⟩ := hu.open_
      have HQB := Lib.hid (HSB.out _ (List.mem_of_getElem? hq))
      have HSN := Lib.hid (show ss.take (j + 1) = ss.take j ++ [ss[j]'hlt] by rw [List.take_add_one, hq]; rfl)
      rw [heq] at hc'
      generalize ss[j]'hlt = q at HQB HSN hc' hcq l1
      rw [up_len] at hc' hcq l1
      have hcu : wr.cell? (ad'.add j) = some (.slice Aq q.length cq) := by rw [HBQ.out.cell (by rw [block_add]; have := World.block_lt_of_cell? w _ hc'; rwa [block_add] at this)]; exact hc'
      have HCQ := Lib.hid hcq
      have hji : (j : Int) < (ss.length : Int) := by omega
      clear hz hq hu hc' heq hcq
      go_wp2_with fail
      clear hcu
      obtain ⟨wo, rfl⟩ : ∃ wo : World, wo = wr := ⟨_, rfl⟩
      go_loopw [3, 17] (fun o i wi => ∃ k : Nat, k ≤ q.length ∧ i = .int .i64 k ∧ OwnInts wi w.heap.size tI o (up (0 :: bumps (ss.take j) ++ bump (q.take k))) ∧ Below w.heap.size w wi) (fun _ i _ => q.length - (intOf i).toNat)
      case atStart => exact ⟨0, Nat.zero_le _, rfl, by simpa [bump] using HOI.out, HBQ.out⟩
      case round =>
        obtain ⟨k, hk, rfl, ho, hb⟩ := hrel
        clear HOI HBQ
        have HOI := Lib.hid ho
        have HBQ := Lib.hid hb
        clear ho hb
        by_cases hlt2 : k < q.length
        · obtain ⟨aq, z, rfl, hz, -, hcz0⟩ := HCQ.out k hlt2
          obtain ⟨l, hlk, hzl⟩ := up_getD hz
          have hcz : wr.cell? (aq.add k) = some (.int .i64 z) := by
            rw [HBQ.out.cell (by rw [block_add]; have := World.block_lt_of_cell? w _ hcz0; rwa [block_add] at this)]; exact hcz0
          have hl1 := HQB.out.2 l (List.mem_of_getElem? hlk)
          have hwz : IntKind.i64.wrap (z + 1) = z + 1 := IntWalk.i64_in _ (by omega)
          have hz64 : In64 (z + 1) := by unfold In64; omega
          have HTK := Lib.hid (show bump (q.take (k + 1)) = bump (q.take k) ++ [l + 1] by rw [List.take_add_one, hlk, bump_append]; rfl)
          have HZL := Lib.hid hzl
          have HLN := Lib.hid (show (up (0 :: bumps (ss.take j) ++ bump (q.take k))).length ≤ 1000000 by
            have h1 := HBT.out j
            have h2 := HQB.out.1
            rw [up_len, List.length_append, List.length_cons, bumps_len, bump_len, List.length_take]
            omega)
          have hki : (k : Int) < (q.length : Int) := by omega
          clear hz hlk hcz0 hzl hl1
          go_wp2_with (at_builtin; refine wpList_app1 T_int HOI.out.1 (by rw [ints_len]; have := HLN.out; omega) HBQ.out.size (by rfl) rfl (by rfl) (by rfl) (by rfl) ?_; intro v1 w5 hown1 hgr1; have HN := Lib.hid hown1; have HB5 := Lib.hid (hgr1.below HBQ.out HBQ.out.size HOI.out.1.ge); clear hown1 hgr1)
          go_roundw
          case rel =>
            refine ⟨k + 1, by omega, by go_num, ?_, HB5.out⟩
            have e : up (0 :: bumps (ss.take j) ++ bump (q.take (k + 1))) = up (0 :: bumps (ss.take j) ++ bump (q.take k)) ++ [z + 1] := by
              rw [HTK.out, ← List.append_assoc, up_append, HZL.out]; rfl
            rw [e]
            exact ⟨by simpa [ints] using HN.out, fun y hy => by rcases List.mem_append.1 hy with hy | hy; exact HOI.out.2 y hy; simp at hy; subst hy; exact hz64⟩
          case measure => simp [intOf]; omega
        · have : k = q.length := by omega
          subst this
          have e : up (0 :: bumps (ss.take j) ++ bump (q.take q.length)) = up (0 :: bumps (ss.take (j + 1))) := by
            rw [List.take_length, HSN.out, bumps_append]; simp [bumps]
          have HOI2 := Lib.hid (e ▸ HOI.out)
          clear HOI e
          go_wp2_with fail
          go_roundw
          case rel => exact ⟨j + 1, by omega, by go_num, HOI2.out, HBQ.out⟩
          case measure => simp [intOf]; omega
    · have : j = ss.length := by omega
      subst this
      go_wp2_with fail
      go_ret
      have hfin := HOI.out
      rw [List.take_length] at hfin
      exact ⟨_, rfl, hfin, HBQ.out⟩
end Go.Proofs.Ytnlaoainhlfemaa

set_option maxRecDepth 100000
set_option linter.unusedVariables false
set_option linter.unusedSimpArgs false
namespace Go.Proofs.Ytnlaoainhlfemaa
open Go.RowKit Go.Sort Go.Shelf

section
variable {α : Type} [Inhabited α] {enc : α → Value} {w : World} {B g cap n : Nat} {e : TypeId} {d : List α} {os : Array Obj}
theorem holds_own (h : Own w B e (.slice (some ⟨g, 0, none⟩) d.length cap) (d.map enc)) : Holds enc w g 0 d.toArray := by
  rcases h.cases with ⟨e, _⟩ | ⟨g', cap', cur, e, h1, h2, h3, h4, h5, h6, h7⟩
  · cases e
  simp only [Value.slice.injEq, Option.some.injEq, Addr.mk.injEq] at e
  obtain ⟨⟨rfl, -⟩, -, rfl⟩ := e
  intro j hj
  have hj' : j < d.length := by simpa using hj
  refine ⟨?_, by simp [World.frozen?, h3]⟩
  have h8 : (cur.toList.take (d.map enc).length)[j]? = (d.map enc)[j]? := by rw [h7]
  rw [List.getElem?_take_of_lt (by simpa using hj')] at h8
  simp only [World.cell?, h3, Nat.zero_add]
  simp only [Option.isSome_none, Bool.false_eq_true, if_false]
  rw [← Array.getElem?_toList, h8]
  simp [hj']
theorem heap_srt {cur : Array Value} {fr : Nat × Nat} (d : Array α) (hb : w.heap[g]? = some (.cells cur e fr)) :
    (sortWorld enc w g 0 n d os).heap[g]? = some (.cells (putCells enc 0 d cur) e fr) := by
  have hg : g < w.heap.size := (Array.getElem?_eq_some_iff.1 hb).1
  unfold sortWorld
  rw [heap_grow_old _ _ (by simpa using hg)]
  simp [putRow, mapBlock, Sort.ahead, Array.getElem?_modify, hb, onCells]
theorem grownBy_srt (d : Array α) : w.grownBy (sortWorld enc w g 0 n d os) (some g) := by
  unfold sortWorld
  refine ⟨rfl, rfl, rfl, by simp, fun k hk hne => ?_⟩
  rw [heap_grow_old _ _ (by simpa using hk)]
  have : g ≠ k := fun e => hne (by rw [e])
  simp [putRow, mapBlock, Sort.ahead, Array.getElem?_modify, this]
theorem take_put (cur : Array Value) (ts : List α) (h : ts.length ≤ cur.size) : (putCells enc 0 ts.toArray cur).toList.take ts.length = ts.map enc := by
  apply List.ext_getElem?
  intro j
  by_cases hj : j < ts.length
  · rw [List.getElem?_take_of_lt hj, Array.getElem?_toList]
    simp [putCells, hj, show j < cur.size by omega]
  · rw [List.getElem?_take_eq_none (by omega), List.getElem?_eq_none (by simp; omega)]
/-- behind the sort the same slice owns the sorted list -/
theorem own_srt {ts : List α} (h : Own w B e (.slice (some ⟨g, 0, none⟩) d.length cap) (d.map enc)) (hl : ts.length = d.length) :
    Own (sortWorld enc w g 0 n ts.toArray os) B e (.slice (some ⟨g, 0, none⟩) d.length cap) (ts.map enc) := by
  rcases h.cases with ⟨e, _⟩ | ⟨g', cap', cur, e, h1, h2, h3, h4, h5, h6, h7⟩
  · cases e
  simp only [Value.slice.injEq, Option.some.injEq, Addr.mk.injEq] at e
  obtain ⟨⟨rfl, -⟩, -, rfl⟩ := e
  rw [List.length_map] at h4
  unfold Own
  rw [List.length_map]
  exact ⟨by simp, .inr ⟨g, cap, _, by rw [hl], h1, heap_srt _ h3, by omega, h5, by simp [putCells, h6], by rw [Nat.mul_one]; exact take_put cur ts (by omega)⟩⟩
end
end Go.Proofs.Ytnlaoainhlfemaa

set_option linter.unusedVariables false
set_option linter.unusedSimpArgs false
namespace Go.Proofs.Ytnlaoainhlfemaa

theorem blt_iff (a b : Nat) : Nat.blt a b = true ↔ a < b := by simp
theorem ltN_cons (a b : Nat) (s t : List Nat) : ltN (a :: s) (b :: t) = true ↔ a < b ∨ (a = b ∧ ltN s t = true) := by
  rw [ltN]
  cases h : Nat.beq a b with
  | true =>
    have := Nat.eq_of_beq_eq_true h
    subst this
    simp
  | false =>
    have hne := Nat.ne_of_beq_eq_false h
    simp [hne]
theorem ltN_irrefl : ∀ a : List Nat, ltN a a = false
  | [] => rfl
  | a :: s => by
    have := ltN_irrefl s
    cases h : ltN (a :: s) (a :: s) with
    | false => rfl
    | true => rcases (ltN_cons _ _ _ _).1 h with h | ⟨_, h⟩
              · omega
              · rw [this] at h; cases h
theorem ltN_trans : ∀ {a b c : List Nat}, ltN a b = true → ltN b c = true → ltN a c = true
  | [], [], c, h, h' => by cases h
  | [], _ :: _, [], h, h' => by cases h'
  | [], _ :: _, _ :: _, h, h' => rfl
  | _ :: _, [], c, h, h' => by cases h
  | _ :: _, _ :: _, [], h, h' => by cases h'
  | a :: s, b :: t, c :: u, h, h' => by
    rw [ltN_cons] at h h' ⊢
    rcases h with h | ⟨rfl, h⟩ <;> rcases h' with h' | ⟨rfl, h'⟩
    · exact .inl (by omega)
    · exact .inl h
    · exact .inl h'
    · exact .inr ⟨rfl, ltN_trans h h'⟩
theorem ltN_tri : ∀ {a b : List Nat}, ltN a b = false → ltN b a = false → a = b
  | [], [], _, _ => rfl
  | [], _ :: _, h, _ => by cases h
  | _ :: _, [], _, h => by cases h
  | a :: s, b :: t, h, h' => by
    have h1 : ¬ (a < b ∨ (a = b ∧ ltN s t = true)) := fun x => by rw [(ltN_cons a b s t).2 x] at h; cases h
    have h2 : ¬ (b < a ∨ (b = a ∧ ltN t s = true)) := fun x => by rw [(ltN_cons b a t s).2 x] at h'; cases h'
    have e : a = b := by omega
    subst e
    have h3 : ltN s t = false := by cases hh : ltN s t with
      | false => rfl
      | true => exact absurd (.inr ⟨rfl, hh⟩) h1
    have h4 : ltN t s = false := by cases hh : ltN t s with
      | false => rfl
      | true => exact absurd (.inr ⟨rfl, hh⟩) h2
    rw [ltN_tri h3 h4]
theorem ltN_ntrans {a b c : List Nat} (h : ltN a b = false) (h' : ltN b c = false) : ltN a c = false := by
  cases hh : ltN a c with
  | false => rfl
  | true =>
    cases hb : ltN b a with
    | true => rw [ltN_trans hb hh] at h'; cases h'
    | false =>
      have := ltN_tri h hb
      subst this
      rw [h'] at hh; cases hh
theorem ltN_asymm {a b : List Nat} (h : ltN a b = true) : ltN b a = false := by
  cases hh : ltN b a with
  | false => rfl
  | true => have := ltN_trans h hh; rw [ltN_irrefl] at this; cases this

/-- descending -/
def Desc (l : List (List Nat)) : Prop := l.Pairwise fun a b => ltN a b = false
theorem desc_unique : ∀ {l1 l2 : List (List Nat)}, l1.Perm l2 → Desc l1 → Desc l2 → l1 = l2
  | [], l2, h, _, _ => by simpa using h.symm.eq_nil.symm
  | a :: l1, [], h, _, _ => by simpa using h.eq_nil
  | a :: l1, b :: l2, h, h1, h2 => by
    rw [Desc, List.pairwise_cons] at h1 h2
    have e : a = b := by
      by_cases hab : a = b
      · exact hab
      · have ha : a ∈ b :: l2 := h.mem_iff.1 (by simp)
        have hb : b ∈ a :: l1 := h.mem_iff.2 (by simp)
        have ha2 : a ∈ l2 := by rcases List.mem_cons.1 ha with h | h; exact absurd h hab; exact h
        have hb2 : b ∈ l1 := by rcases List.mem_cons.1 hb with h | h; exact absurd h.symm hab; exact h
        exact ltN_tri (h1.1 b hb2) (h2.1 a ha2)
    subst e
    rw [desc_unique h.cons_inv h1.2 h2.2]
theorem insD_perm (p : List Nat) : ∀ qs : List (List Nat), (insD p qs).Perm (p :: qs)
  | [] => .refl _
  | q :: qs => by
    rw [insD]
    cases ltN q p with
    | true => exact .refl _
    | false => exact ((insD_perm p qs).cons q).trans (.swap p q qs)
theorem insD_desc {p : List Nat} : ∀ {qs : List (List Nat)}, Desc qs → Desc (insD p qs)
  | [], _ => by simp [insD, Desc]
  | q :: qs, h => by
    rw [Desc, List.pairwise_cons] at h
    rw [insD]
    cases hq : ltN q p with
    | true =>
      refine List.pairwise_cons.2 ⟨fun x hx => ?_, List.pairwise_cons.2 h⟩
      rcases List.mem_cons.1 hx with rfl | hx
      · exact ltN_asymm hq
      · cases hh : ltN p x with
        | false => rfl
        | true => have := h.1 x hx; rw [ltN_trans hq hh] at this; cases this
    | false =>
      refine List.pairwise_cons.2 ⟨fun x hx => ?_, insD_desc h.2⟩
      rcases mem_insD hx with rfl | hx
      · exact hq
      · exact h.1 x hx
theorem srtF_perm : ∀ (s ps : List (List Nat)), (srtF s ps).Perm (s ++ ps)
  | s, [] => by simp [srtF]
  | s, p :: ps => by
    rw [srtF]
    refine (srtF_perm _ ps).trans ?_
    refine ((insD_perm p s).append_right ps).trans ?_
    exact List.perm_middle.symm
theorem srtF_desc : ∀ {s ps : List (List Nat)}, Desc s → Desc (srtF s ps)
  | s, [], h => h
  | s, p :: ps, h => by rw [srtF]; exact srtF_desc (s := insD p s) (ps := ps) (insD_desc h)
theorem srtD_unique {l ps : List (List Nat)} (h : l.Perm ps) (hd : Desc l) : l = srtD ps :=
  desc_unique (h.trans (srtF_perm [] ps).symm) hd (srtF_desc (by simp [Desc]))
end Go.Proofs.Ytnlaoainhlfemaa

set_option linter.unusedVariables false
set_option linter.unusedSimpArgs false
namespace Go.Proofs.Ytnlaoainhlfemaa

theorem befN_iff (s t : List Nat) : befN s t = true ↔ s.length < t.length ∨ (s.length = t.length ∧ ltN t s = true) := by
  unfold befN
  cases h : Nat.beq s.length t.length with
  | true => have := Nat.eq_of_beq_eq_true h; simp [this]
  | false =>
    have := Nat.ne_of_beq_eq_false h
    simp only [cond_false, blt_iff]
    omega
theorem befN_irrefl (a : List Nat) : befN a a = false := by
  cases h : befN a a with
  | false => rfl
  | true =>
    rcases (befN_iff a a).1 h with h | ⟨-, h⟩
    · omega
    · rw [ltN_irrefl] at h; cases h
theorem befN_trans {a b c : List Nat} (h : befN a b = true) (h' : befN b c = true) : befN a c = true := by
  rw [befN_iff] at *
  rcases h with h | ⟨e, h⟩ <;> rcases h' with h' | ⟨e', h'⟩
  · left; omega
  · left; omega
  · left; omega
  · right; exact ⟨by omega, ltN_trans h' h⟩
theorem befN_tri {a b : List Nat} (h : befN a b = false) (h' : befN b a = false) : a = b := by
  have h1 : ¬ befN a b = true := by rw [h]; decide
  have h2 : ¬ befN b a = true := by rw [h']; decide
  rw [befN_iff] at h1 h2
  have e : a.length = b.length := by omega
  refine ltN_tri ?_ ?_
  · cases hh : ltN a b with
    | false => rfl
    | true => exact absurd (.inr ⟨e.symm, hh⟩) h2
  · cases hh : ltN b a with
    | false => rfl
    | true => exact absurd (.inr ⟨e, hh⟩) h1
theorem befN_asymm {a b : List Nat} (h : befN a b = true) : befN b a = false := by
  cases hh : befN b a with
  | false => rfl
  | true => have := befN_trans h hh; rw [befN_irrefl] at this; cases this
theorem befN_ntrans {a b c : List Nat} (h : befN a b = false) (h' : befN b c = false) : befN a c = false := by
  cases hh : befN a c with
  | false => rfl
  | true =>
    cases hb : befN b a with
    | true => rw [befN_trans hb hh] at h'; cases h'
    | false =>
      have := befN_tri h hb
      subst this
      rw [h'] at hh; cases hh

/-- ascending -/
def Asc (l : List (List Nat)) : Prop := l.Pairwise fun a b => befN b a = false
theorem asc_unique : ∀ {l1 l2 : List (List Nat)}, l1.Perm l2 → Asc l1 → Asc l2 → l1 = l2
  | [], l2, h, _, _ => by simpa using h.symm.eq_nil.symm
  | a :: l1, [], h, _, _ => by simpa using h.eq_nil
  | a :: l1, b :: l2, h, h1, h2 => by
    rw [Asc, List.pairwise_cons] at h1 h2
    have e : a = b := by
      by_cases hab : a = b
      · exact hab
      · have ha : a ∈ b :: l2 := h.mem_iff.1 (by simp)
        have hb : b ∈ a :: l1 := h.mem_iff.2 (by simp)
        have ha2 : a ∈ l2 := by rcases List.mem_cons.1 ha with h | h; exact absurd h hab; exact h
        have hb2 : b ∈ l1 := by rcases List.mem_cons.1 hb with h | h; exact absurd h.symm hab; exact h
        exact befN_tri (h2.1 a ha2) (h1.1 b hb2)
    subst e
    rw [asc_unique h.cons_inv h1.2 h2.2]
/-- a tree put into a forest, behind those that are not behind it -/
def insB (p : List Nat) : List (List Nat) → List (List Nat)
  | [] => [p]
  | q :: qs => bif befN p q then p :: q :: qs else q :: insB p qs
def srtBF (s : List (List Nat)) : List (List Nat) → List (List Nat)
  | [] => s
  | p :: ps => srtBF (insB p s) ps
/-- trees in their order -/
def srtB (ps : List (List Nat)) : List (List Nat) := srtBF [] ps
theorem insB_perm (p : List Nat) : ∀ qs : List (List Nat), (insB p qs).Perm (p :: qs)
  | [] => .refl _
  | q :: qs => by
    rw [insB]
    cases befN p q with
    | true => exact .refl _
    | false => exact ((insB_perm p qs).cons q).trans (.swap p q qs)
theorem mem_insB {p x : List Nat} {qs : List (List Nat)} (h : x ∈ insB p qs) : x = p ∨ x ∈ qs := by
  have := (insB_perm p qs).mem_iff.1 h
  simpa using this
theorem insB_asc {p : List Nat} : ∀ {qs : List (List Nat)}, Asc qs → Asc (insB p qs)
  | [], _ => by simp [insB, Asc]
  | q :: qs, h => by
    rw [Asc, List.pairwise_cons] at h
    rw [insB]
    cases hq : befN p q with
    | true =>
      refine List.pairwise_cons.2 ⟨fun x hx => ?_, List.pairwise_cons.2 h⟩
      rcases List.mem_cons.1 hx with rfl | hx
      · exact befN_asymm hq
      · cases hh : befN x p with
        | false => rfl
        | true => have := h.1 x hx; rw [befN_trans hh hq] at this; cases this
    | false =>
      refine List.pairwise_cons.2 ⟨fun x hx => ?_, insB_asc h.2⟩
      rcases mem_insB hx with rfl | hx
      · exact hq
      · exact h.1 x hx
theorem srtBF_perm : ∀ (s ps : List (List Nat)), (srtBF s ps).Perm (s ++ ps)
  | s, [] => by simp [srtBF]
  | s, p :: ps => by
    rw [srtBF]
    refine (srtBF_perm _ ps).trans ?_
    refine ((insB_perm p s).append_right ps).trans ?_
    exact List.perm_middle.symm
theorem srtBF_asc : ∀ {s ps : List (List Nat)}, Asc s → Asc (srtBF s ps)
  | s, [], h => h
  | s, p :: ps, h => by rw [srtBF]; exact srtBF_asc (s := insB p s) (ps := ps) (insB_asc h)
theorem srtB_unique {l ps : List (List Nat)} (h : l.Perm ps) (hd : Asc l) : l = srtB ps :=
  asc_unique (h.trans (srtBF_perm [] ps).symm) hd (srtBF_asc (by simp [Asc]))
theorem srtB_perm (ps : List (List Nat)) : (srtB ps).Perm ps := srtBF_perm [] ps
theorem srtBF_snoc : ∀ (s ps : List (List Nat)) (p : List Nat), srtBF s (ps ++ [p]) = insB p (srtBF s ps)
  | s, [], p => rfl
  | s, q :: ps, p => by rw [List.cons_append, srtBF, srtBF, srtBF_snoc]
/-- where a tree is put in -/
def insBAt (p : List Nat) : List (List Nat) → Nat
  | [] => 0
  | q :: qs => bif befN p q then 0 else insBAt p qs + 1
theorem insBAt_le (p : List Nat) : ∀ qs : List (List Nat), insBAt p qs ≤ qs.length
  | [] => Nat.le_refl _
  | q :: qs => by rw [insBAt]; cases befN p q <;> simp [insBAt_le p qs]
theorem insB_at (p : List Nat) : ∀ qs : List (List Nat), insB p qs = qs.take (insBAt p qs) ++ p :: qs.drop (insBAt p qs)
  | [] => rfl
  | q :: qs => by rw [insB, insBAt]; cases befN p q <;> simp [insB_at p qs]
theorem insBAt_step (p : List Nat) : ∀ (qs : List (List Nat)) (k : Nat) (q : List Nat), k ≤ insBAt p qs → qs[k]? = some q → (befN p q = true ∧ k = insBAt p qs) ∨ (befN p q = false ∧ k + 1 ≤ insBAt p qs)
  | [], k, q, hk, hq => by simp at hq
  | x :: qs, 0, q, hk, hq => by
    simp at hq; subst hq
    rw [insBAt]
    cases h : befN p x <;> simp
  | x :: qs, k + 1, q, hk, hq => by
    rw [insBAt] at hk ⊢
    cases h : befN p x with
    | true => rw [h] at hk; simp at hk
    | false =>
      rw [h] at hk
      simp only [cond_false] at hk ⊢
      rcases insBAt_step p qs k q (by omega) (by simpa using hq) with ⟨h1, h2⟩ | ⟨h1, h2⟩
      · exact .inl ⟨h1, by omega⟩
      · exact .inr ⟨h1, by omega⟩
end Go.Proofs.Ytnlaoainhlfemaa

set_option linter.unusedVariables false
set_option linter.unusedSimpArgs false
namespace Go.Proofs.Ytnlaoainhlfemaa

structure STO {α : Type} (lt : α → α → Bool) : Prop where
  irrefl : ∀ x, lt x x = false
  trans : ∀ {x y z}, lt x y = true → lt y z = true → lt x z = true
  tri : ∀ {x y}, lt x y = false → lt y x = false → x = y
namespace STO
variable {α β : Type} {lt : α → α → Bool} {l2 : β → β → Bool}
theorem asymm (h : STO lt) {x y : α} (a : lt x y = true) : lt y x = false := by
  cases b : lt y x with
  | false => rfl
  | true => have := h.trans a b; rw [h.irrefl] at this; cases this
theorem ntrans (h : STO lt) {x y z : α} (a : lt x y = false) (b : lt y z = false) : lt x z = false := by
  cases c : lt x z with
  | false => rfl
  | true =>
    cases d : lt y x with
    | true => have := h.trans d c; rw [b] at this; cases this
    | false => have := h.tri a d; subst this; rw [b] at c; cases c
theorem bef : STO befN := ⟨befN_irrefl, befN_trans, befN_tri⟩
theorem pull (h : STO lt) {f : β → α} (inj : ∀ {a b}, f a = f b → a = b) : STO (fun a b => lt (f a) (f b)) :=
  ⟨fun x => h.irrefl _, fun a b => h.trans a b, fun a b => inj (h.tri a b)⟩
end STO
/-- pairs: by the first, then by the second -/
def lexP {α β : Type} (l1 : α → α → Bool) (l2 : β → β → Bool) (a b : α × β) : Bool := bif l1 a.1 b.1 then true else bif l1 b.1 a.1 then false else l2 a.2 b.2
theorem lexP_eq {α β : Type} {l1 : α → α → Bool} {l2 : β → β → Bool} (h : STO l1) (a : α) (b c : β) : lexP l1 l2 (a, b) (a, c) = l2 b c := by simp [lexP, h.irrefl]
theorem lexP_tt {α β : Type} {l1 : α → α → Bool} {l2 : β → β → Bool} {a b : α × β} (h : l1 a.1 b.1 = true) : lexP l1 l2 a b = true := by simp [lexP, h]
theorem lexP_cases {α β : Type} {l1 : α → α → Bool} {l2 : β → β → Bool} (h1 : STO l1) {a b : α × β} (h : lexP l1 l2 a b = true) : l1 a.1 b.1 = true ∨ (a.1 = b.1 ∧ l2 a.2 b.2 = true) := by
  unfold lexP at h
  cases h2 : l1 a.1 b.1 with
  | true => exact .inl rfl
  | false =>
    cases h3 : l1 b.1 a.1 with
    | true => rw [h2, h3] at h; cases h
    | false => rw [h2, h3] at h; exact .inr ⟨h1.tri h2 h3, h⟩
theorem lexP_ncases {α β : Type} {l1 : α → α → Bool} {l2 : β → β → Bool} (h1 : STO l1) {a b : α × β} (h : lexP l1 l2 a b = false) : l1 b.1 a.1 = true ∨ (a.1 = b.1 ∧ l2 a.2 b.2 = false) := by
  unfold lexP at h
  cases h2 : l1 a.1 b.1 with
  | true => rw [h2] at h; cases h
  | false =>
    cases h3 : l1 b.1 a.1 with
    | true => exact .inl rfl
    | false => rw [h2, h3] at h; exact .inr ⟨h1.tri h2 h3, h⟩
theorem STO.lexP {α β : Type} {l1 : α → α → Bool} {l2 : β → β → Bool} (h1 : STO l1) (h2 : STO l2) : STO (lexP l1 l2) where
  irrefl x := by simp [Go.Proofs.Ytnlaoainhlfemaa.lexP, h1.irrefl, h2.irrefl]
  trans {x y z} a b := by
    obtain ⟨x1, x2⟩ := x; obtain ⟨y1, y2⟩ := y; obtain ⟨z1, z2⟩ := z
    rcases lexP_cases h1 a with a | ⟨a1, a2⟩
    · rcases lexP_cases h1 b with b | ⟨b1, b2⟩
      · exact lexP_tt (h1.trans a b)
      · simp only at b1; subst b1; exact lexP_tt a
    · simp only at a1; subst a1
      rcases lexP_cases h1 b with b | ⟨b1, b2⟩
      · exact lexP_tt b
      · simp only at b1; subst b1; rw [lexP_eq h1]; exact h2.trans a2 b2
  tri {x y} a b := by
    obtain ⟨x1, x2⟩ := x; obtain ⟨y1, y2⟩ := y
    rcases lexP_ncases h1 a with a | ⟨a1, a2⟩
    · rw [lexP_tt a] at b; cases b
    · simp only at a1; subst a1
      rw [lexP_eq h1] at b
      have e : x2 = y2 := h2.tri a2 b
      rw [e]
/-- lists: element by element; a beginning first -/
def lexL {α : Type} (lt : α → α → Bool) : List α → List α → Bool
  | [], [] => false
  | [], _ :: _ => true
  | _ :: _, [] => false
  | x :: xs, y :: ys => bif lt x y then true else bif lt y x then false else lexL lt xs ys
theorem lexL_cons {α : Type} (lt : α → α → Bool) (x y : α) (xs ys : List α) : lexL lt (x :: xs) (y :: ys) = lexP lt (lexL lt) (x, xs) (y, ys) := rfl
theorem STO.lexL {α : Type} {lt : α → α → Bool} (h : STO lt) : STO (lexL lt) where
  irrefl x := by
    induction x with
    | nil => rfl
    | cons x xs ih => simp [Go.Proofs.Ytnlaoainhlfemaa.lexL, h.irrefl, ih]
  trans {x} := by
    induction x with
    | nil =>
      intro y z a b
      cases z with
      | nil => cases y with | nil => exact b | cons _ _ => cases b
      | cons z zs => rfl
    | cons x xs ih =>
      intro y z a b
      cases y with
      | nil => cases a
      | cons y ys =>
        cases z with
        | nil => cases b
        | cons z zs =>
          rw [lexL_cons] at a b ⊢
          rcases lexP_cases h a with a | ⟨a1, a2⟩
          · rcases lexP_cases h b with b | ⟨b1, b2⟩
            · exact lexP_tt (h.trans a b)
            · simp only at b1; subst b1; exact lexP_tt a
          · simp only at a1; subst a1
            rcases lexP_cases h b with b | ⟨b1, b2⟩
            · exact lexP_tt b
            · simp only at b1; subst b1; rw [lexP_eq h]; exact ih a2 b2
  tri {x} := by
    induction x with
    | nil =>
      intro y a b
      cases y with
      | nil => rfl
      | cons _ _ => cases a
    | cons x xs ih =>
      intro y a b
      cases y with
      | nil => cases b
      | cons y ys =>
        rw [lexL_cons] at a b
        rcases lexP_ncases h a with a | ⟨a1, a2⟩
        · rw [lexP_tt a] at b; cases b
        · simp only at a1; subst a1
          rw [lexP_eq h] at b
          rw [ih a2 b]

/-- sorting by insertion -/
def insS {α : Type} (lt : α → α → Bool) (p : α) : List α → List α
  | [] => [p]
  | q :: qs => bif lt p q then p :: q :: qs else q :: insS lt p qs
def srtSF {α : Type} (lt : α → α → Bool) (s : List α) : List α → List α
  | [] => s
  | p :: ps => srtSF lt (insS lt p s) ps
def srtS {α : Type} (lt : α → α → Bool) (ps : List α) : List α := srtSF lt [] ps
def AscS {α : Type} (lt : α → α → Bool) (l : List α) : Prop := l.Pairwise fun a b => lt b a = false
section
variable {α : Type} {lt : α → α → Bool}
theorem insS_perm (p : α) : ∀ qs : List α, (insS lt p qs).Perm (p :: qs)
  | [] => .refl _
  | q :: qs => by
    rw [insS]
    cases lt p q with
    | true => exact .refl _
    | false => exact ((insS_perm p qs).cons q).trans (.swap p q qs)
theorem insS_asc (h : STO lt) {p : α} : ∀ {qs : List α}, AscS lt qs → AscS lt (insS lt p qs)
  | [], _ => by simp [insS, AscS]
  | q :: qs, hq => by
    rw [AscS, List.pairwise_cons] at hq
    rw [insS]
    cases hb : lt p q with
    | true =>
      refine List.pairwise_cons.2 ⟨fun x hx => ?_, List.pairwise_cons.2 hq⟩
      rcases List.mem_cons.1 hx with rfl | hx
      · exact h.asymm hb
      · exact h.ntrans (hq.1 x hx) (h.asymm hb)
    | false =>
      refine List.pairwise_cons.2 ⟨fun x hx => ?_, insS_asc h hq.2⟩
      have := (insS_perm p qs).mem_iff.1 hx
      rcases List.mem_cons.1 this with rfl | hx
      · exact hb
      · exact hq.1 x hx
theorem srtSF_perm : ∀ (s ps : List α), (srtSF lt s ps).Perm (s ++ ps)
  | s, [] => by simp [srtSF]
  | s, p :: ps => by
    rw [srtSF]
    refine (srtSF_perm _ ps).trans ?_
    refine ((insS_perm p s).append_right ps).trans ?_
    exact List.perm_middle.symm
theorem srtSF_asc (h : STO lt) : ∀ {s ps : List α}, AscS lt s → AscS lt (srtSF lt s ps)
  | s, [], hs => hs
  | s, p :: ps, hs => by rw [srtSF]; exact srtSF_asc h (s := insS lt p s) (ps := ps) (insS_asc h hs)
theorem srtS_unique (h : STO lt) {l ps : List α} (hp : l.Perm ps) (hd : AscS lt l) : l = srtS lt ps :=
  List.Perm.eq_of_pairwise (fun a b _ _ (h1 : lt b a = false) (h2 : lt a b = false) => h.tri h2 h1) hd (srtSF_asc h (by simp [AscS])) (hp.trans (by have := srtSF_perm (lt := lt) [] ps; simpa [srtS] using this.symm))
end

end Go.Proofs.Ytnlaoainhlfemaa

set_option maxRecDepth 100000
set_option linter.unusedVariables false
set_option linter.unusedSimpArgs false
namespace Go.Proofs.Ytnlaoainhlfemaa
open Go.RowKit Go.Sort Go.Shelf

/-- what k cells say of a datum; what they point to lies in blocks from B on, of numbers and of slices of numbers -/
structure Elt (α : Type) where
  k : Nat
  D : World → Nat → List Value → α → Prop
  len : ∀ {w B c x}, D w B c x → c.length = k
  one : ∀ {w B c x}, D w B c x → ∀ u ∈ c, u.oneCell' = true
  below : ∀ {w w' B c x}, D w B c x → Below w.heap.size w w' → D w' B c x
  mono : ∀ {w B B' c x}, D w B c x → B' ≤ B → D w B' c x
  kept : ∀ {w w' B c x} {e : TypeId} {v : Value}, D w B c x → w.grownBy w' v.ownBlock → BT w e v → tI ≠ e → tL ≠ e → D w' B c x

def Elts {α : Type} (E : Elt α) (w : World) (B : Nat) (css : List (List Value)) (xs : List α) : Prop := css.length = xs.length ∧ ∀ (i : Nat) (c : List Value) (x : α), css[i]? = some c → xs[i]? = some x → E.D w B c x
section
variable {α : Type} {E : Elt α} {w w' : World} {B : Nat} {css : List (List Value)} {xs : List α}
theorem Elts.nil (E : Elt α) (w : World) (B : Nat) : Elts E w B [] [] := ⟨rfl, fun i c x h => by simp at h⟩
theorem Elts.below (h : Elts E w B css xs) (hb : Below w.heap.size w w') : Elts E w' B css xs := ⟨h.1, fun i c x hc hx => E.below (h.2 i c x hc hx) hb⟩
theorem Elts.mono {B' : Nat} (h : Elts E w B css xs) (hB : B' ≤ B) : Elts E w B' css xs := ⟨h.1, fun i c x hc hx => E.mono (h.2 i c x hc hx) hB⟩
theorem Elts.kept {v : Value} {e : TypeId} (h : Elts E w B css xs) (hg : w.grownBy w' v.ownBlock) (hb : BT w e v) (h1 : tI ≠ e) (h2 : tL ≠ e) : Elts E w' B css xs := ⟨h.1, fun i c x hc hx => E.kept (h.2 i c x hc hx) hg hb h1 h2⟩
theorem Elts.snoc {c : List Value} {x : α} (h : Elts E w B css xs) (hx : E.D w B c x) : Elts E w B (css ++ [c]) (xs ++ [x]) := by
  refine ⟨by simp [h.1], fun i c' x' hc hx' => ?_⟩
  by_cases hlt : i < css.length
  · rw [List.getElem?_append_left hlt] at hc
    rw [List.getElem?_append_left (by rw [← h.1]; exact hlt)] at hx'
    exact h.2 i c' x' hc hx'
  · have hkl := (List.getElem?_eq_some_iff.1 hc).1
    simp at hkl
    have : i = css.length := by omega
    subst this
    rw [List.getElem?_append_right (Nat.le_refl _)] at hc
    rw [List.getElem?_append_right (by rw [h.1]; exact Nat.le_refl _), h.1] at hx'
    simp at hc hx'
    subst hc; subst hx'
    exact hx
theorem Elts.at_ {i : Nat} {x : α} (h : Elts E w B css xs) (hx : xs[i]? = some x) : ∃ c, css[i]? = some c ∧ E.D w B c x := by
  have hi : i < css.length := by rw [h.1]; exact (List.getElem?_eq_some_iff.1 hx).1
  exact ⟨_, List.getElem?_eq_getElem hi, h.2 i _ x (List.getElem?_eq_getElem hi) hx⟩
theorem Elts.set_ {i : Nat} {c : List Value} {x : α} (h : Elts E w B css xs) (hx : E.D w B c x) : Elts E w B (css.set i c) (xs.set i x) := by
  refine ⟨by simp [h.1], fun j c' x' hc hx' => ?_⟩
  rw [List.getElem?_set] at hc hx'
  by_cases hij : i = j
  · subst hij
    rw [if_pos rfl] at hc hx'
    split at hc
    · rw [if_pos (by rw [← h.1]; assumption)] at hx'
      injection hc with hc; injection hx' with hx'
      subst hc; subst hx'
      exact hx
    · cases hc
  · rw [if_neg hij] at hc hx'
    exact h.2 j c' x' hc hx'
end
/-- a list of one's own of such elements -/
def SLs {α : Type} (E : Elt α) (e : TypeId) (w : World) (B : Nat) (v : Value) (xs : List α) : Prop := ∃ css, OwnK w B e E.k v css ∧ Elts E w B css xs
section
variable {α : Type} {E : Elt α} {e : TypeId} {w w' : World} {B : Nat} {v : Value} {xs : List α}
theorem SLs.below (h : SLs E e w B v xs) (hb : Below w.heap.size w w') : SLs E e w' B v xs := by obtain ⟨css, h1, h2⟩ := h; exact ⟨css, h1.below hb, h2.below hb⟩
theorem SLs.mono {B' : Nat} (h : SLs E e w B v xs) (hB : B' ≤ B) : SLs E e w B' v xs := by obtain ⟨css, h1, h2⟩ := h; exact ⟨css, h1.mono hB, h2.mono hB⟩
theorem SLs.open_ (h : SLs E e w B v xs) : ∃ A c, v = .slice A xs.length c ∧ xs.length ≤ c ∧ c ≤ 9223372036854775807 := by
  obtain ⟨css, h1, h2⟩ := h
  have := h1.open_
  rwa [h2.1] at this
end

/-! ### sorted by the library -/
section
variable {α : Type} [Inhabited α] {enc : α → List Value} {k : Nat}
theorem flatK_list (hk : ∀ x, (enc x).length = k) (d : List α) : (flatK enc k d.toArray).toList = (d.map enc).flatten := by
  have hkk : ∀ c ∈ d.map enc, c.length = k := fun c hc => by obtain ⟨x, -, rfl⟩ := List.mem_map.1 hc; exact hk x
  apply List.ext_getElem?
  intro t
  by_cases ht : t < d.length * k
  · have k0 : 0 < k := by rcases Nat.eq_zero_or_pos k with h | h; subst h; simp at ht; exact h
    have hq : t / k < d.length := by rw [Nat.div_lt_iff_lt_mul k0]; exact ht
    have hm : t % k < k := Nat.mod_lt _ k0
    have hsz : t < (flatK enc k d.toArray).size := by rw [size_flatK]; simpa using ht
    have h1 : (flatK enc k d.toArray).toList[t]? = some ((enc (d[t / k]'hq))[t % k]'(by rw [hk]; exact hm)) := by
      rw [Array.getElem?_toList, Array.getElem?_eq_getElem hsz, ← getElem!_pos _ t hsz, get_flatK _ _ _ t (by simpa using ht)]
      rw [getElem!_pos d.toArray (t / k) (by simpa using hq), getElem!_pos _ (t % k) (by rw [hk]; exact hm)]
      simp
    rw [h1]
    have h2 := flat_get (css := d.map enc) (i := t / k) (j := t % k) hkk (by rw [List.getElem?_map, List.getElem?_eq_getElem hq]; rfl) (List.getElem?_eq_getElem (by rw [hk]; exact hm))
    rw [Nat.div_add_mod'] at h2
    exact h2.symm
  · rw [List.getElem?_eq_none (by rw [Array.length_toList, size_flatK]; simpa using ht), List.getElem?_eq_none (by rw [flat_len hkk, List.length_map]; omega)]
variable {w : World} {B g cap n : Nat} {e : TypeId} {d : List α} {os : Array Obj}
theorem holds_ownK (hk : ∀ x, (enc x).length = k) (h : OwnK w B e k (.slice (some ⟨g, 0, none⟩) d.length cap) (d.map enc)) : HoldsK enc k w g 0 d.toArray := by
  have hfl := flatK_list hk d
  rcases h.1.2 with ⟨e, _⟩ | ⟨g', cap', cur, he, h1, h2, h3, h4, h5, h6⟩
  · cases e
  simp only [Value.slice.injEq, Option.some.injEq, Addr.mk.injEq] at he
  obtain ⟨⟨rfl, -⟩, -, rfl⟩ := he
  intro j hj
  refine ⟨?_, by simp [World.frozen?, h2]⟩
  have h8 : (flatK enc k d.toArray)[j]? = cur[j]? := by
    rw [← Array.getElem?_toList, hfl, ← h6, List.getElem?_take_of_lt (by rw [List.length_map]; rw [size_flatK] at hj; simpa using hj), Array.getElem?_toList]
  simp only [World.cell?, h2, Nat.zero_add]
  simp only [Option.isSome_none, Bool.false_eq_true, if_false]
  rw [← h8, Array.getElem?_eq_getElem hj, getElem!_pos _ j hj]
  rfl
theorem grownBy_srtK (d : Array α) : w.grownBy (sortWorldK enc k w g 0 n d os) (some g) := by
  unfold sortWorldK putRowK
  refine ⟨rfl, rfl, rfl, by simp, fun k' hk' hne => ?_⟩
  rw [heap_grow_old _ _ (by simpa using hk')]
  have : g ≠ k' := fun e => hne (by rw [e])
  simp [putRow, mapBlock, Sort.ahead, Array.getElem?_modify, this]
theorem own_srtK (hk : ∀ x, (enc x).length = k) {ts : List α} (h : OwnK w B e k (.slice (some ⟨g, 0, none⟩) d.length cap) (d.map enc)) (hl : ts.length = d.length) :
    OwnK (sortWorldK enc k w g 0 n ts.toArray os) B e k (.slice (some ⟨g, 0, none⟩) d.length cap) (ts.map enc) := by
  have hkk : ∀ (l : List α), ∀ c ∈ l.map enc, c.length = k := fun l c hc => by obtain ⟨x, -, rfl⟩ := List.mem_map.1 hc; exact hk x
  rcases h.1.2 with ⟨e, _⟩ | ⟨g', cap', cur, he, h1, h2, h3, h4, h5, h6⟩
  · cases e
  simp only [Value.slice.injEq, Option.some.injEq, Addr.mk.injEq] at he
  obtain ⟨⟨rfl, -⟩, -, rfl⟩ := he
  rw [List.length_map] at h3 h6
  have hg : g < w.heap.size := (Array.getElem?_eq_some_iff.1 h2).1
  have hheap : (sortWorldK enc k w g 0 n ts.toArray os).heap[g]? = some (.cells (putCells id 0 (flatK enc k ts.toArray) cur) e (0, 0)) := by
    unfold sortWorldK putRowK
    rw [heap_grow_old _ _ (by simpa using hg)]
    simp [putRow, mapBlock, Sort.ahead, Array.getElem?_modify, h2, onCells]
  refine ⟨⟨by rw [flat_len (hkk ts)], .inr ⟨g, cap, _, by simp [hl], h1, hheap, by simp; omega, h4, by simp [putCells, h5], ?_⟩⟩, hkk ts⟩
  have hsz : (flatK enc k ts.toArray).size ≤ cur.size := by rw [size_flatK, h5]; simp only [List.size_toArray]; rw [hl]; exact Nat.mul_le_mul_right k h3
  have ht := take_put (α := Value) (enc := id) cur (flatK enc k ts.toArray).toList (by simpa using hsz)
  have e1 : (flatK enc k ts.toArray).toList.toArray = flatK enc k ts.toArray := by simp
  have e2 : (flatK enc k ts.toArray).toList.length = ts.length * k := by simp
  rw [e1, e2, List.map_id, flatK_list hk] at ht
  rw [List.length_map]
  exact ht
end

/-- an element with the cells that say it -/
abbrev EltS {α : Type} (E : Elt α) (w : World) (B : Nat) := {p : List Value × α // E.D w B p.1 p.2}
theorem mkElts {α : Type} {E : Elt α} {w : World} {B : Nat} : ∀ {css : List (List Value)} {xs : List α}, Elts E w B css xs → ∃ d : List (EltS E w B), d.map (fun x => x.1.1) = css ∧ d.map (fun x => x.1.2) = xs
  | [], [], _ => ⟨[], rfl, rfl⟩
  | [], _ :: _, h => by have := h.1; simp at this
  | _ :: _, [], h => by have := h.1; simp at this
  | c :: css, x :: xs, h => by
    obtain ⟨d, h1, h2⟩ := mkElts (css := css) (xs := xs) ⟨by have := h.1; simpa using this, fun i c' x' hc hx => h.2 (i + 1) c' x' (by simpa using hc) (by simpa using hx)⟩
    exact ⟨⟨(c, x), h.2 0 c x (by simp) (by simp)⟩ :: d, by simp [h1], by simp [h2]⟩

/-- slices.SortFunc at structs of one's own, where the comparison reads them -/
theorem sort_elts {P : Program} {ρ : Ren} (L : SlLaysF0.n6 P ρ) {α : Type} (E : Elt α) {e : TypeId} (aE : ∀ w, (isAgg (ρ.t 24)).run P w = .ok true w) (zE : ∀ w, (Go.sizeOf (ρ.t 24)).run P w = .ok E.k w)
    (lt : α → α → Bool) (sto : STO lt) (cf : α → α → Int) (hcf : ∀ x y, decide (cf x y < 0) = lt x y) (g : Nat) (eg : ∀ args w, (callFunc g args).run P w = .ok (.enter g args) w) (h1 : tI ≠ e) (h2 : tL ≠ e)
    (hcmp : ∀ (W : World) (B : Nat) (c c' : List Value) (x y : α), E.D W B c x → E.D W B c' y → Calls P g #[.agg c.toArray, .agg c'.toArray] W fun e w' => e = .returned (.int .i64 (cf x y)) ∧ ∃ q os, w' = grow (W.drewN q) os)
    (w : World) (B cap : Nat) (A : Option Addr) (css : List (List Value)) (xs : List α) (h : OwnK w B e E.k (.slice A css.length cap) css) (hr : Elts E w B css xs) (hn : css.length ≤ 1000000) :
    Calls P (ρ.f 6) #[.slice A css.length cap, .func (.func g) #[] #[]] w fun e' w' => e' = .returned (.tuple #[]) ∧
      ∃ css', css'.length = css.length ∧ OwnK w' B e E.k (.slice A css.length cap) css' ∧ Elts E w' B css' (srtS lt xs) ∧ w.grownBy w' (Value.ownBlock (.slice A css.length cap)) := by
  rcases h.cases with ⟨he, rfl⟩ | ⟨gb, cap', cur, he, hBg, hgs, -⟩
  · simp only [Value.slice.injEq] at he
    obtain ⟨rfl, -, rfl⟩ := he
    have hb : xs = [] := by have h0 := hr.1; exact List.eq_nil_of_length_eq_zero h0.symm
    subst hb
    refine (AnyF.slices_SortFunc_none { L with } none 0 _ w).mono ?_
    rintro e w' ⟨rfl, rfl⟩
    exact ⟨rfl, [], rfl, h, hr, World.grownBy.refl _ _⟩
  · simp only [Value.slice.injEq] at he
    obtain ⟨rfl, -, rfl⟩ := he
    obtain ⟨d, hd1, hd2⟩ := mkElts hr
    by_cases hx0 : d = []
    · subst hx0
      simp at hd1
      subst hd1
      have hb : xs = [] := by simpa using hd2.symm
      subst hb
      refine (AnyF.slices_SortFunc_none { L with } (some ⟨gb, 0, none⟩) cap _ w).mono ?_
      rintro e w' ⟨rfl, rfl⟩
      exact ⟨rfl, [], rfl, h, hr, World.grownBy.refl _ _⟩
    haveI : Inhabited (EltS E w B) := ⟨d.head hx0⟩
    have hdl : d.length = css.length := by rw [← hd1, List.length_map]
    have hk : ∀ x : EltS E w B, (x.1.1).length = E.k := fun x => E.len x.2
    have ho : OwnK w B e E.k (.slice (some ⟨gb, 0, none⟩) d.length cap) (d.map fun x => x.1.1) := by rw [hd1, hdl]; exact h
    have hone : ∀ x : EltS E w B, ∀ v ∈ x.1.1, v.oneCell' = true := fun x => E.one x.2
    have hbt : BT w e (.slice (some ⟨gb, 0, none⟩) css.length cap) := h.bt
    have hkeep : ∀ (x : EltS E w B) (m : Nat) (dk : Array (EltS E w B)) (os : Array Obj), E.D (sortWorldK (fun x : EltS E w B => x.1.1) E.k w gb 0 m dk os) B x.1.1 x.1.2 := fun x m dk os =>
      E.kept (v := .slice (some ⟨gb, 0, none⟩) css.length cap) x.2 (grownBy_srtK dk) hbt h1 h2
    have hlay : CmpLays P g #[] (fun x : EltS E w B => x.1.1) E.k (fun x y => cf x.1.2 y.1.2) gb 0 d.toArray.size w := fun m os dk _ x y =>
      (hcmp _ B _ _ _ _ (hkeep x m dk os) (hkeep y m dk os)).mono fun e w' ⟨he, q, os', hw⟩ => ⟨he, q, os', hw⟩
    have hlt : ∀ x y : EltS E w B, ltOf (fun x y : EltS E w B => cf x.1.2 y.1.2) x y = lt x.1.2 y.1.2 := fun x y => hcf _ _
    have hswo : SWO (ltOf fun x y : EltS E w B => cf x.1.2 y.1.2) :=
      { irrefl := fun x => by rw [hlt]; exact sto.irrefl _
        trans := fun x y z a b => by rw [hlt] at *; exact sto.trans a b
        ntrans := fun x y z a b => by rw [hlt] at *; exact sto.ntrans a b }
    have hcon := AnyQ.slices_SortFunc L E.k aE zE (fun x : EltS E w B => x.1.1) hk hone _ hswo g #[] gb 0 cap d.toArray w eg hlay (holds_ownK hk ho) hgs (by simp; omega)
    rw [List.size_toArray, hdl] at hcon
    refine hcon.mono ?_
    rintro e' w' ⟨rfl, d', n, os, hp, hs, rfl⟩
    have hsz : d'.size = css.length := by have := hp.1; simp at this; omega
    have hperm : d'.toList.Perm d := by
      have h3 := hp.2.2
      rw [← hsz] at h3
      simp only [Array.extract_size] at h3
      have e : (d.toArray.extract 0 d'.size).toList = d := by
        rw [show d'.size = d.toArray.size by simp; omega, Array.extract_size]
      rw [e] at h3
      exact h3
    have hasc : AscS lt (d'.toList.map fun x => x.1.2) := by
      rw [AscS, List.pairwise_iff_getElem]
      intro i j hi hj hij
      simp at hi hj
      have h4 := hs i j (Nat.zero_le _) hij (by omega)
      rw [hlt, getElem!_pos d' i (by omega), getElem!_pos d' j (by omega)] at h4
      simpa using h4
    have hL : (d'.toList.map fun x => x.1.2) = srtS lt xs := srtS_unique sto (by rw [← hd2]; exact hperm.map _) hasc
    have hl : d'.toList.length = d.length := by simp; omega
    have hfin := own_srtK (n := n) (os := os) hk ho hl
    simp only [Array.toArray_toList] at hfin
    rw [hdl] at hfin
    refine ⟨rfl, d'.toList.map (fun x => x.1.1), by simp; omega, hfin, ⟨by rw [← hL]; simp, fun i c x hc hx => ?_⟩, grownBy_srtK d'⟩
    rw [← hL, List.getElem?_map] at hx
    rw [List.getElem?_map] at hc
    cases hx' : d'.toList[i]? with
    | none => rw [hx'] at hc; cases hc
    | some z =>
      rw [hx'] at hc hx
      simp only [Option.map_some, Option.some.injEq] at hc hx
      subst hc; subst hx
      exact hkeep z _ _ _
end Go.Proofs.Ytnlaoainhlfemaa

