/- A region that draws its order and stores at its end what it has loaded: those loads may be taken first. No program in sight. | Steps in a region that draws: append of one element, of a list, make. No program in sight. | Walks: l03Before, l03Sort, l16Skeleton of the reference. | Walk: l03Sort of the reference. | Plain: all trees with n nodes, from a canonical list to the next smaller one. | Walks: l03Grow, l03Trees of the reference. | Walks: l04End, l04Graft of the reference. -/
import Derived.OrdersHeld
import Derived.RegionTactic
import Derived.Deep.RegionHeld
import Derived.Test.YtdjhfeaimmpmhaaGreatZf8
import Derived.Test.YtdjhfeaimmpmhaaGreatZf5
import Derived.Test.YtdjhfeaimmpmhaaGreatZf11
import Derived.Test.YtdjhfeaimmpmhaaGreatZf6
import Derived.Test.YtdjhfeaimmpmhaaGreatZf7
import Derived.Deep.QuietTactic
import Derived.BigQuiet
import Derived.Deep.RegionLaw
import Derived.Test.YtdjhfeaimmpmhaaGreatZf9
set_option linter.unusedVariables false
set_option linter.unusedSimpArgs false
namespace Go.Proofs.YtdjhfeaimmpmhaaGreat
open Go

section
variable {P : Program} {ops : Array Oper} {Q : Exit → Act → World → Prop} {md : Region.Mode} {S : Bool → World → Prop} {k : Nat}

/-- whatever order comes: 'S false' holds of the worlds ahead of operation k, 'S true' of those behind it -/
def AnyT (P : Program) (md : Region.Mode) (ops : Array Oper) (Q : Exit → Act → World → Prop) (S : Bool → World → Prop) (k : Nat) : Nat → Array Bool → Act → World → Prop
  | 0, L, a, w => Region.ready md ops L = [] ∧ Q .normal a w
  | f + 1, L, a, w => (Region.ready md ops L = [] → Q .normal a w) ∧
      ∀ i ∈ Region.ready md ops L, wpOp P ops Q i (fun a' w' => S ((L.setIfInBounds i true).getD k true) w' ∧ AnyT P md ops Q S k f (L.setIfInBounds i true) a' w') a w

theorem AnyT.any : ∀ (f : Nat) (L : Array Bool) (a : Act) (w : World), AnyT P md ops Q S k f L a w → wpAny P md ops Q f L a w
  | 0, _, _, _, h => h
  | f + 1, _, _, _, h => ⟨h.1, fun i hi => wpOp_mono (fun a' w' h' => AnyT.any f _ a' w' h'.2) (h.2 i hi)⟩

theorem AnyT.first {i : Nat} {oi : Oper} {v : Value} {U : World → Prop} {G : Array Bool → Prop} (hi : ops[i]? = some oi)
    (hsel : ∀ (j : Nat) (o : Oper) cs b, ops[j]? = some o → o.op ≠ .select cs b)
    (hQ : ∀ c a w, Q (.panic c) (a.put oi.dst v) w → Q (.panic c) a w) (hik : i ≠ k)
    (hG : ∀ (L : Array Bool) (j : Nat), G L → i ∈ Region.ready md ops L → j ∈ Region.ready md ops L → j ≠ i → G (L.setIfInBounds j true))
    (hU : ∀ (L : Array Bool) (w : World), G L → S (L.getD k true) w → U w) :
    ∀ (f : Nat) (L : Array Bool) (a : Act) (w : World),
      (∀ j oj, ops[j]? = some oj → j ≠ i → L.getD j true = false → (∀ e ∈ oj.after, Region.binds md e = true → e.on ≠ i) → oi.apart ops oj = true) →
      i ∈ Region.ready md ops L → G L → YieldsIf P ops U oi v a → S (L.getD k true) w →
      AnyT P md ops Q S k f (L.setIfInBounds i true) (a.put oi.dst v) w → AnyT P md ops Q S k (f + 1) L a w := by
  have hkeep : ∀ (L : Array Bool), (L.setIfInBounds i true).getD k true = L.getD k true := fun L => getD_set_ne true hik
  intro f
  induction f with
  | zero =>
    intro L a w _ hr g hy hS H
    refine ⟨fun h => (by rw [h] at hr; cases hr), fun j hj => ?_⟩
    by_cases hji : j = i
    · subst hji
      exact hy.wpOp hi (hU L w g hS) ⟨by rw [hkeep]; exact hS, H⟩
    · have h1 := ready_mono hj hji
      rw [H.1] at h1
      cases h1
  | succ f ih =>
    intro L a w hfree hr g hy hS H
    refine ⟨fun h => (by rw [h] at hr; cases hr), fun j hj => ?_⟩
    by_cases hji : j = i
    · subst hji
      exact hy.wpOp hi (hU L w g hS) ⟨by rw [hkeep]; exact hS, H⟩
    · obtain ⟨hjun, oj, hoj, hall⟩ := mem_ready.1 hj
      have hiun := (mem_ready.1 hr).1
      have hnot : ∀ e ∈ oj.after, Region.binds md e = true → e.on ≠ i := fun e he hb heq => by
        have h1 := hall e he hb
        rw [heq] at h1
        rcases Nat.lt_or_ge i L.size with h' | h'
        · simp [h'] at hiun h1; rw [hiun] at h1; cases h1
        · simp [Array.getElem?_eq_none h'] at h1
      have h2 := wpOp_putIf hoj (hfree j oj hoj hji hjun hnot) (fun cs b => hsel i oi cs b hi) (fun cs b => hsel j oj cs b hoj) hQ hy (H.2 j (ready_mono hj hji))
      refine wpOp_mono (fun a' w' h3 => ?_) h2
      have e : (L.setIfInBounds i true).setIfInBounds j true = (L.setIfInBounds j true).setIfInBounds i true := Array.setIfInBounds_comm _ _ (Ne.symm hji)
      obtain ⟨hy', hS', H'⟩ := h3
      rw [e] at H'
      rw [e, hkeep] at hS'
      refine ⟨hS', ih (L.setIfInBounds j true) a' w' (fun m om hm hmi hun hno => hfree m om hm hmi ?_ hno) (ready_mono hr (Ne.symm hji)) (hG L j g hr hj hji) hy' hS' H'⟩
      by_cases hjm : j = m
      · subst hjm; exact hjun
      · rw [getD_set_ne true hjm] at hun; exact hun

/-- operation i, which yields in every world that meets S, may be taken first -/
theorem AnyT.take0 {i : Nat} {oi : Oper} {v : Value} {f : Nat} {L : Array Bool} {a : Act} {w : World} (hi : ops[i]? = some oi)
    (hs : Region.noSelect ops = true) (hf : Region.free md ops L i = true) (hr : (Region.ready md ops L).contains i = true) (hik : i ≠ k)
    (hQ : ∀ c a w, Q (.panic c) (a.put oi.dst v) w → Q (.panic c) a w) (hS : S (L.getD k true) w) (hy : YieldsIf P ops (fun w => ∃ b, S b w) oi v a)
    (h : AnyT P md ops Q S k f (L.setIfInBounds i true) (a.put oi.dst v) w) : AnyT P md ops Q S k (f + 1) L a w :=
  AnyT.first (G := fun _ => True) (U := fun w => ∃ b, S b w) hi (Region.noSelect_spec hs) hQ hik (fun _ _ _ _ _ _ => trivial) (fun L w _ h => ⟨_, h⟩) f L a w (Region.free_spec hi hf) (by simpa using hr) trivial hy hS h

/-- does operation k wait for i? -/
def waitsB (md : Region.Mode) (ops : Array Oper) (k i : Nat) : Bool := ((ops[k]?).map fun o => o.after.any fun e => Region.binds md e && e.on == i).getD false

/-- operation i, for which k waits, and which yields in every world ahead of k, may be taken first -/
theorem AnyT.take1 {i : Nat} {oi : Oper} {v : Value} {f : Nat} {L : Array Bool} {a : Act} {w : World} (hi : ops[i]? = some oi)
    (hs : Region.noSelect ops = true) (hf : Region.free md ops L i = true) (hr : (Region.ready md ops L).contains i = true) (hik : i ≠ k)
    (hk : waitsB md ops k i = true) (hkL : L.getD k true = false)
    (hQ : ∀ c a w, Q (.panic c) (a.put oi.dst v) w → Q (.panic c) a w) (hS : S (L.getD k true) w) (hy : YieldsIf P ops (S false) oi v a)
    (h : AnyT P md ops Q S k f (L.setIfInBounds i true) (a.put oi.dst v) w) : AnyT P md ops Q S k (f + 1) L a w := by
  refine AnyT.first (G := fun L => L.getD k true = false) (U := S false) hi (Region.noSelect_spec hs) hQ hik (fun L j g hr hj hji => ?_) (fun L w g h => by rw [g] at h; exact h) f L a w (Region.free_spec hi hf) (by simpa using hr) hkL hy hS h
  have hne : j ≠ k := by
    rintro rfl
    obtain ⟨-, oj, hoj, hall⟩ := mem_ready.1 hj
    have hiun := (mem_ready.1 hr).1
    unfold waitsB at hk
    rw [hoj] at hk
    simp only [Option.map_some, Option.getD_some, Array.any_eq_true', Bool.and_eq_true, beq_iff_eq] at hk
    obtain ⟨e, he, hb, hon⟩ := hk
    have h1 := hall e he hb
    rw [hon] at h1
    rcases Nat.lt_or_ge i L.size with h' | h'
    · simp [h'] at hiun h1; rw [hiun] at h1; cases h1
    · simp [Array.getElem?_eq_none h'] at h1
  rw [getD_set_ne true hne]
  exact g

/-- each of the operations rs comes next -/
def AllT (P : Program) (md : Region.Mode) (ops : Array Oper) (Q : Exit → Act → World → Prop) (S : Bool → World → Prop) (k : Nat) (f : Nat) (L : Array Bool) (a : Act) (w : World) (rs : List Nat) : Prop :=
  ∀ i ∈ rs, wpOp P ops Q i (fun a' w' => S ((L.setIfInBounds i true).getD k true) w' ∧ AnyT P md ops Q S k f (L.setIfInBounds i true) a' w') a w
theorem AllT.nil {f : Nat} {L : Array Bool} {a : Act} {w : World} : AllT P md ops Q S k f L a w [] := fun _ h => by cases h
theorem AllT.cons {f : Nat} {L : Array Bool} {a : Act} {w : World} {i : Nat} {o : Oper} {rs : List Nat} (ho : ops[i]? = some o)
    (h : ∀ K' : Act → World → Prop, Shut (∀ a w, S ((L.setIfInBounds i true).getD k true) w → (S ((L.setIfInBounds i true).getD k true) w → AnyT P md ops Q S k f (L.setIfInBounds i true) a w) → K' a w) →
      if Region.wanted o (yielded ops a.tmps) = true then Oper.wp P o a w K' Q else K' (a.put o.dst undef) w)
    (hs : AllT P md ops Q S k f L a w rs) : AllT P md ops Q S k f L a w (i :: rs) := fun j hj => by
  rcases List.mem_cons.1 hj with rfl | hj
  · exact wpOp_step ho (fun K' hK => h K' (fun a w hS hW => hK a w ⟨hS, hW hS⟩))
  · exact hs j hj
theorem AnyT.go {rs : List Nat} {f : Nat} {L : Array Bool} {a : Act} {w : World} (hr : Region.ready md ops L = rs) (hne : rs ≠ []) (h : AllT P md ops Q S k f L a w rs) : AnyT P md ops Q S k (f + 1) L a w :=
  ⟨fun h0 => absurd (hr ▸ h0) hne, hr ▸ h⟩
theorem AnyT.done {L : Array Bool} {a : Act} {w : World} (hr : Region.ready md ops L = []) (h : Q .normal a w) : ∀ f, AnyT P md ops Q S k f L a w
  | 0 => ⟨hr, h⟩
  | _ + 1 => ⟨fun _ => h, by rw [hr]; simp⟩
theorem AnyT.begin {id : Nat} {a : Act} {w : World} (hm : P.follows .mixedOrders = true) (h : AnyT P .any ops Q S k ops.size (Array.replicate ops.size false) a w.drew) : (Code.region id ops true).wp P Q a w :=
  wp_region_any hm (AnyT.any _ _ _ _ h)
end
end Go.Proofs.YtdjhfeaimmpmhaaGreat

set_option maxRecDepth 100000
set_option linter.unusedVariables false
set_option linter.unusedSimpArgs false
namespace Go.Proofs.YtdjhfeaimmpmhaaGreat
open Go.RowKit

/-- append of one element, met in a region that draws, where the element lies anywhere -/
theorem stp_app1 {P : Program} {ops : Array Oper} {o : Oper} {a : Act} {K : Act → World → Prop} {Q : Exit → Act → World → Prop} {E : Prop} {s x : Operand} {t : TypeId}
    {e : TypeId} {z : Value} {bytes : Nat} {B : Nat} {v : Value} {vs : List Value} {W : World} {u : Value} {ad : Addr}
    (T : ElemT P t e z bytes) (hown : Own W B e v vs) (hlen : vs.length < 1099511627776) (hB : B ≤ W.heap.size) (hu : u.oneCell' = true)
    (hgd : o.guard = none) (ho : o.op = .call { callee := .builtin .append, args := #[s, x], argTypes := #[t, t] }) (hs : a.eval s = v)
    (hx : a.eval x = .slice (some ad) 1 1) (hc : W.cell? ad = some u)
    (h : ∀ v' w', Own w' B e v' (vs ++ [u]) → Grow W w' v v' → K (a.put o.dst v') w') :
    if Region.wanted o (yielded ops a.tmps) = true then Oper.wp P o a W K Q else E := by
  have hw : Region.wanted o (yielded ops a.tmps) = true := by simp [Region.wanted, hgd]
  rw [if_pos hw]
  obtain ⟨i, hi, hz, h1, h2⟩ := info_parts T.info
  have hby := T.small
  obtain ⟨v', w', hrun, r1, r2, _, r3⟩ := run_append_own_at (P := P) W B t o.type e i z 1 bytes T.under hi hz h1 h2 (by rw [T.one]; rfl) (by omega) v vs.length vs hown ad 1 1 [u] rfl
    (fun j u' hj => by
      cases j with
      | zero =>
        simp at hj; subst hj
        exact hc
      | succ j => simp at hj) (by simpa using hu) (by simp only [maxLen]; omega) (by have := Nat.mul_le_mul_left (vs.length + 1) hby; omega) hB
  unfold Oper.wp execOp
  simp only [ho, resolve, invoke, builtin, Sem.run_bind, Sem.run_pure, Result.andThen_ok, List.map_toArray, List.map_cons, List.map_nil, hs, hx, hrun]
  refine h v' w' ?_ ⟨r2, ?_⟩
  · unfold Own; simpa using r1
  · rcases r3 with r3 | r3
    · exact .inl r3
    · exact .inr ⟨_, r3, Nat.le_refl _⟩

end Go.Proofs.YtdjhfeaimmpmhaaGreat

set_option maxRecDepth 100000
set_option linter.unusedVariables false
set_option linter.unusedSimpArgs false
namespace Go.Proofs.YtdjhfeaimmpmhaaGreat
open Go.RowKit

end Go.Proofs.YtdjhfeaimmpmhaaGreat

set_option maxRecDepth 100000
set_option linter.unusedVariables false
set_option linter.unusedSimpArgs false
namespace Go.Proofs.YtdjhfeaimmpmhaaGreat
open Go.RowKit

theorem ints_oneT (zs : List Int) : ∀ u ∈ ints zs, u.oneCell' = true := by
  intro u hu
  obtain ⟨z, _, rfl⟩ := List.mem_map.1 hu
  rfl
theorem s_l01OwnT (w : World) (v : Value) (zs : List Int) (ha : Ints w v zs) (hn : zs.length ≤ 4294967296) :
    Calls Tryz.prog 158 #[v] w fun e w' => ∃ r, e = .returned r ∧ OwnInts w' w.heap.size tI r zs ∧ Below w.heap.size w w' := by
  obtain ⟨A, c, rfl, l1, l2, h3⟩ := ha.open_
  have HA := Lib.hid ha
  clear h3 ha
  have OL := Lib.hid (own_lit w tI [] (by simp [maxLen]))
  have B1 := Lib.hid (below1 w (.cells #[] tI))
  go_enter Tryz.func158, Tryz.ntmps158
  go_wp2_with (at_builtin; refine wpList_appN T_int OL.out (HA.out.below B1.out).1 (by rw [ints_len]; simp; omega) B1.out.size (ints_oneT _) rfl (by rfl) (by rfl) (by rfl) ?_; intro v1 w2 hown1 hgr1)
  go_ret
  exact ⟨_, rfl, ⟨by simpa using hown1, HA.out.2⟩, hgr1.below B1.out (by simp) OL.out.ge⟩

end Go.Proofs.YtdjhfeaimmpmhaaGreat

set_option linter.unusedVariables false
set_option linter.unusedSimpArgs false
set_option maxRecDepth 100000
namespace Go.Proofs.YtdjhfeaimmpmhaaGreat

/-- one more than the last place below k with a level of more than 1; 0 if there is none -/
def pN (t : List Nat) : Nat → Nat
  | 0 => 0
  | k + 1 => bif Nat.ble (t.getD k 0) 1 then pN t k else k + 1
def fillF (t : List Nat) (d : Nat) : Nat → Nat → List Nat
  | 0, _ => t
  | m + 1, i => fillF (t.set i (t.getD (i - d) 0)) d m (i + 1)
/-- the next smaller list -/
def succT (t : List Nat) : Option (List Nat) := match pN t t.length with
  | 0 => none
  | p + 1 => some (fillF t (p - (parN t (t.getD p 0) p - 1)) (t.length - p) p)
def treesF : Nat → List Nat → List (List Nat)
  | 0, _ => []
  | f + 1, t => t :: match succT t with
    | none => []
    | some t' => treesF f t'
/-- all trees with n nodes, in order -/
def treesN (n : Nat) : List (List Nat) := treesF 200 (List.range n)

def okT (n : Nat) : Bool := Nat.ble (treesN n).length 115 && (treesN n).all fun t => Nat.beq t.length n && (lvl t && (match canO 9 t with | none => false | some r => eqN r t) &&
  match pN t t.length with
    | 0 => true
    | p + 1 => Nat.blt 0 (parN t (t.getD p 0) p))
theorem okT_8 : (List.range 8).all (fun n => okT (n + 1)) = true := by decide +kernel
theorem treesN_at {n : Nat} (h1 : 1 ≤ n) (h8 : n ≤ 8) : (treesN n).length ≤ 115 ∧ ∀ t ∈ treesN n, t.length = n ∧ lvl t = true ∧ canO 9 t = some t ∧ ∀ p, pN t t.length = p + 1 → 0 < parN t (t.getD p 0) p := by
  have h := okT_8
  rw [List.all_eq_true] at h
  have h2 := h (n - 1) (List.mem_range.2 (by omega))
  rw [show n - 1 + 1 = n by omega, okT] at h2
  simp only [Bool.and_eq_true, List.all_eq_true] at h2
  refine ⟨Nat.le_of_ble_eq_true h2.1, fun t ht => ?_⟩
  obtain ⟨a, ⟨b, c⟩, d⟩ := h2.2 t ht
  refine ⟨Nat.eq_of_beq_eq_true a, b, ?_, fun p hp => ?_⟩
  · cases hc : canO 9 t with
    | none => rw [hc] at c; cases c
    | some r => rw [hc] at c; rw [eqN_iff.1 c]
  · rw [hp] at d
    simpa using d
end Go.Proofs.YtdjhfeaimmpmhaaGreat

set_option maxRecDepth 100000
set_option linter.unusedVariables false
set_option linter.unusedSimpArgs false
namespace Go.Proofs.YtdjhfeaimmpmhaaGreat
open Go.RowKit

def downF : Nat → List Nat
  | 0 => []
  | l + 1 => (l + 1) :: downF l
def isCanG (t : List Nat) : Bool := match canO 9 t with | none => false | some r => eqN r t
/-- the canonical lists with n levels that begin with a list -/
def growF : Nat → List Nat → Nat → List (List Nat)
  | 0, t, n => bif Nat.beq t.length n then (bif isCanG t then [t] else []) else []
  | f + 1, t, n => bif Nat.beq t.length n then (bif isCanG t then [t] else []) else (downF (t.getD (t.length - 1) 0 + 1)).flatMap fun l => growF f (t ++ [l]) n
def eqLL : List (List Nat) → List (List Nat) → Bool
  | [], [] => true
  | a :: xs, b :: ys => eqN a b && eqLL xs ys
  | _, _ => false
theorem eqLL_eq : ∀ {a b : List (List Nat)}, eqLL a b = true → a = b
  | [], [], _ => rfl
  | [], _ :: _, h => by cases h
  | _ :: _, [], h => by cases h
  | a :: xs, b :: ys, h => by
    rw [eqLL, Bool.and_eq_true] at h
    rw [eqN_iff.1 h.1, eqLL_eq h.2]
theorem grow_trees8 : (List.range 8).all (fun n => eqLL (growF 8 [0] (n + 1)) (treesN (n + 1))) = true := by decide +kernel
theorem grow_trees {n : Nat} (h1 : 1 ≤ n) (h8 : n ≤ 8) : growF 8 [0] n = treesN n := by
  have h := grow_trees8
  rw [List.all_eq_true] at h
  have h2 := h (n - 1) (List.mem_range.2 (by omega))
  rw [show n - 1 + 1 = n by omega] at h2
  exact eqLL_eq h2

theorem Grow.refl (w : World) (v : Value) : Grow w w v v := ⟨World.grownBy.refl _ _, .inl rfl⟩
theorem Grow.of_below {w w' : World} {v : Value} (h : Below w.heap.size w w') : w.grownBy w' v.ownBlock := ⟨h.os, h.tape, h.output, h.size, fun k hk _ => h.block k hk⟩
theorem Grow.trans {w w1 w2 : World} {v v1 v2 : Value} (h : Grow w w1 v v1) (h' : Grow w1 w2 v1 v2) : Grow w w2 v v2 := by
  refine ⟨⟨h'.1.os.trans h.1.os, h'.1.tape.trans h.1.tape, h'.1.output.trans h.1.output, Nat.le_trans h.1.size h'.1.size, fun k hk hne => ?_⟩, ?_⟩
  · refine (h'.1.block k (Nat.lt_of_lt_of_le hk h.1.size) ?_).trans (h.1.block k hk hne)
    rcases h.2 with h2 | ⟨g, h2, h3⟩
    · rw [h2]; exact hne
    · rw [h2]; intro e; injection e with e; omega
  · rcases h'.2 with h3 | ⟨g, h3, h4⟩
    · rw [h3]; exact h.2
    · exact .inr ⟨g, h3, Nat.le_trans h.1.size h4⟩
theorem Grow.pre {w w1 w2 : World} {v v2 : Value} (hb : Below w.heap.size w w1) (h : Grow w1 w2 v v2) : Grow w w2 v v2 := Grow.trans ⟨Grow.of_below hb, .inl rfl⟩ h

set_option maxHeartbeats 4000000 in
theorem s_growLeaf (w : World) (v vo : Value) (t : List Nat) (n B Bt : Nat) (dn : List (List Nat)) (ht : OwnInts w Bt tI v (up t)) (ho : LA w B vo (dn.map up)) (hlv : lvl t = true) (htn : t.length = n) (hn8 : n ≤ 8) (hB : B ≤ w.heap.size) (hsz : dn.length ≤ 1000) :
    Calls Tryz.prog 180 #[v, .int .i64 n, vo] w fun e w' => ∃ x, e = .returned x ∧ LA w' B x ((dn ++ (bif isCanG t then [t] else [])).map up) ∧ Grow w w' vo x := by
  obtain ⟨r, hr, -, -⟩ := canO_8 hlv (by omega)
  have HR := Lib.hid hr
  have hcg : isCanG t = decide (up r = up t) := by
    unfold isCanG
    rw [hr]
    simp only
    by_cases e : r = t
    · rw [eqN_iff.2 e, e]; exact (decide_eq_true rfl).symm
    · have h1 : eqN r t = false := by
        cases hh : eqN r t with
        | true => exact absurd (eqN_iff.1 hh) e
        | false => rfl
      rw [h1]; exact (decide_eq_false fun h => e (up_inj h)).symm
  have HLL := Lib.hid (show ∀ l ∈ t, l ≤ 1000000 from fun l hl => by
    have hh := lev8 (p := fun t => t.all fun l => Nat.ble l 8) (by decide +kernel) hlv (by omega)
    rw [List.all_eq_true] at hh
    have := Nat.le_of_ble_eq_true (hh l hl)
    omega)
  obtain ⟨A, c, rfl, l1, l2, -⟩ := ht.ints.open_
  rw [up_len] at l1 ht ⊢
  have HT := Lib.hid ht
  obtain ⟨vs, hown, hrr, hap⟩ := ho
  have hvl : vs.length = dn.length := by rw [hrr.1, List.length_map]
  obtain ⟨Ao, co, rfl, -, -⟩ := hown.cells.open_
  rw [hvl] at hown ⊢
  have HO := Lib.hid hown
  have HRR := Lib.hid hrr
  have HAP := Lib.hid hap
  have hd : ((t.length : Int) == (n : Int)) = true := by simp [htn]
  have hvs : vs.length ≤ 1000 := by omega
  have ht8 : t.length ≤ 8 := by omega
  clear ht hown hrr hap hvl htn hr
  cases hb : decide (up r = up t) with
  | true =>
    have HCG := Lib.hid (show dn ++ (bif isCanG t then [t] else []) = dn ++ [t] from by rw [hcg, hb]; rfl)
    rw [HCG.out]
    have HBB := Lib.hid hb
    clear hcg hb
    go_enter Tryz.func180, Tryz.ntmps180
    go_wp2_with (first
      | (go_at_call 179; refine (s_l03Canon 9 _ _ t r HT.out.ints HR.out (by omega) HLL.out).mono ?_; rintro e w1 ⟨x1, rfl, ho1, hb1⟩; have HO1 := Lib.hid ho1; have HB1 := Lib.hid hb1; clear ho1 hb1)
      | (go_at_call 135; refine (s_l01Same _ _ _ (up r) (up t) HO1.out.ints (HT.out.ints.below HB1.out)).mono ?_; rintro e w2 ⟨rfl, n2, rfl⟩; rw [HBB.out])
      | (go_at_call 158; refine (s_l01OwnT _ _ (up t) ((HT.out.ints.below HB1.out).drewN n2) (by rw [up_len]; omega)).mono ?_; rintro e w3 ⟨x3, rfl, ho3, hb3⟩; obtain ⟨A5, c5, he5, -, -, -⟩ := ho3.ints.open_; rw [up_len] at he5; subst he5; have HO3 := Lib.hid ho3; have HB3 := Lib.hid (show Below w.heap.size w w3 from (below_drewN HB1.out n2).trans (hb3.mono HB1.out.size)); clear hb3 ho3)
      | (at_builtin; refine wpList_app1 T_row (HO.out.below HB3.out) (by omega) (Nat.le_trans hB HB3.out.size) (by rfl) rfl (by rfl) (by rfl) (by rfl) ?_; intro v1 w5 hown1 hgr1; have HN1 := Lib.hid hown1; have HGR := Lib.hid hgr1; clear hown1 hgr1))
    go_ret
    refine ⟨_, rfl, ⟨_, HN1.out, ?_, pairApart_snoc HAP.out (HRR.out.fresh (Nat.le_refl _) (fun b hb => Nat.le_trans HB1.out.size (HO3.out.1.ge b hb)))⟩, Grow.pre HB3.out HGR.out⟩
    rw [List.map_append]
    exact LL.snoc (HO.out.below HB3.out) (HRR.out.below HB3.out) (HO3.out.mono (Nat.le_trans hB HB1.out.size)) HN1.out HGR.out.1
  | false =>
    have HCG := Lib.hid (show dn ++ (bif isCanG t then [t] else []) = dn from by rw [hcg, hb]; simp)
    rw [HCG.out]
    have HBB := Lib.hid hb
    clear hcg hb
    go_enter Tryz.func180, Tryz.ntmps180
    go_wp2_with (first
      | (go_at_call 179; refine (s_l03Canon 9 _ _ t r HT.out.ints HR.out (by omega) HLL.out).mono ?_; rintro e w1 ⟨x1, rfl, ho1, hb1⟩; have HO1 := Lib.hid ho1; have HB1 := Lib.hid hb1; clear ho1 hb1)
      | (go_at_call 135; refine (s_l01Same _ _ _ (up r) (up t) HO1.out.ints (HT.out.ints.below HB1.out)).mono ?_; rintro e w2 ⟨rfl, n2, rfl⟩; rw [HBB.out]))
    go_ret
    have hb2 := below_drewN HB1.out n2
    exact ⟨_, rfl, ⟨vs, HO.out.below hb2, HRR.out.below hb2, HAP.out⟩, ⟨Grow.of_below hb2, .inl rfl⟩⟩

theorem lvlF_add : ∀ {p : Nat} {t : List Nat} {l : Nat}, lvlF p t = true → 1 ≤ l → l ≤ (p :: t).getD t.length 0 + 1 → lvlF p (t ++ [l]) = true
  | p, [], l, _, h1, h2 => by
    simp at h2
    rw [List.nil_append, lvlF, Nat.ble_eq_true_of_le h1, Nat.ble_eq_true_of_le h2]; rfl
  | p, x :: t, l, h, h1, h2 => by
    rw [lvlF] at h
    rw [List.cons_append, lvlF]
    cases h3 : Nat.ble 1 x with
    | false => rw [h3] at h; cases h
    | true =>
      cases h4 : Nat.ble x (p + 1) with
      | false => rw [h3, h4] at h; cases h
      | true =>
        rw [h3, h4] at h
        exact lvlF_add h h1 (by simpa using h2)
theorem lvl_add {t : List Nat} {l : Nat} (h : lvl t = true) (h1 : 1 ≤ l) (h2 : l ≤ t.getD (t.length - 1) 0 + 1) : lvl (t ++ [l]) = true := by
  obtain ⟨c, rfl, hc⟩ := lvl_cons h
  rw [List.cons_append, lvl]
  exact lvlF_add hc h1 (by simpa using h2)

theorem own_pushed {w : World} {B : Nat} {v : Value} {t : List Nat} {l : Nat} {z : Int} (h : ∀ y ∈ up t, In64 y) (hz : In64 z) (ho : Own w B tI v (ints (up t) ++ [.int .i64 z])) (e : up [l] = [z]) : OwnInts w B tI v (up (t ++ [l])) := by
  rw [up_append, e]
  refine ⟨by simpa [ints] using ho, fun y hy => ?_⟩
  rcases List.mem_append.1 hy with hy | hy
  · exact h y hy
  · simp at hy; subst hy; exact hz

set_option maxHeartbeats 8000000 in
theorem s_l03Grow : ∀ (f : Nat) (w : World) (v vo : Value) (t : List Nat) (n B Bt : Nat) (dn : List (List Nat)), OwnInts w Bt tI v (up t) → LA w B vo (dn.map up) → lvl t = true → t.length ≤ n → n ≤ 8 → n - t.length ≤ f → B ≤ w.heap.size → dn.length + (growF f t n).length ≤ 1000 →
    Calls Tryz.prog 180 #[v, .int .i64 n, vo] w fun e w' => ∃ x, e = .returned x ∧ LA w' B x ((dn ++ growF f t n).map up) ∧ Grow w w' vo x := by
  intro f
  induction f with
  | zero =>
    intro w v vo t n B Bt dn ht ho hlv htn hn8 hf hB hsz
    have hl : t.length = n := by omega
    have h := s_growLeaf w v vo t n B Bt dn ht ho hlv hl hn8 hB (by omega)
    have e : growF 0 t n = bif isCanG t then [t] else [] := by rw [growF, hl, Nat.beq_refl]; rfl
    rw [e]; exact h
  | succ f ih =>
    intro w v vo t n B Bt dn ht ho hlv htn hn8 hf hB hsz
    by_cases hl : t.length = n
    · have h := s_growLeaf w v vo t n B Bt dn ht ho hlv hl hn8 hB (by omega)
      have e : growF (f + 1) t n = bif isCanG t then [t] else [] := by rw [growF, hl, Nat.beq_refl]; rfl
      rw [e]; exact h
    · have IH := Lib.hid ih
      have hbeq : Nat.beq t.length n = false := by
        cases h : Nat.beq t.length n with
        | true => exact absurd (Nat.eq_of_beq_eq_true h) hl
        | false => rfl
      have hg : growF (f + 1) t n = (downF (t.getD (t.length - 1) 0 + 1)).flatMap fun l => growF f (t ++ [l]) n := by rw [growF, hbeq]; rfl
      rw [hg] at hsz ⊢
      have HSZ := Lib.hid (show (dn ++ (downF (t.getD (t.length - 1) 0 + 1)).flatMap fun l => growF f (t ++ [l]) n).length ≤ 1000 from by rw [List.length_append]; exact hsz)
      have hpos : 0 < t.length := by obtain ⟨c, rfl, -⟩ := lvl_cons hlv; simp
      have HLV := Lib.hid hlv
      have HT := Lib.hid ht
      have HO := Lib.hid ho
      obtain ⟨A, c, rfl, l1, l2, h3⟩ := ht.ints.open_
      rw [up_len] at l1 h3 HT ⊢
      obtain ⟨vs0, hown0, -, -⟩ := ho
      have HB0 := Lib.hid hown0.bt
      obtain ⟨ad, z, rfl, hz, -, hcz⟩ := h3 (t.length - 1) (by omega)
      obtain ⟨L, hL, rfl⟩ := up_getD hz
      have hgL : t.getD (t.length - 1) 0 = L := by simp [List.getD, hL]
      have hL8 : L ≤ 1000000 := by
        have hh := lev8 (p := fun t => t.all fun l => Nat.ble l 8) (by decide +kernel) hlv (by omega)
        rw [List.all_eq_true] at hh
        have := Nat.le_of_ble_eq_true (hh L (List.mem_of_getElem? hL))
        omega
      rw [hgL] at HSZ ⊢
      have HGL := Lib.hid hgL
      have hd : ((t.length : Int) == (n : Int)) = false := by simp; omega
      have hw1 : IntKind.i64.wrap ((t.length : Int) - 1) = ((t.length - 1 : Nat) : Int) := by rw [IntWalk.i64_in _ (by omega)]; omega
      have hwL : IntKind.i64.wrap ((L : Int) + 1) = (L : Int) + 1 := IntWalk.i64_in _ (by omega)
      have hti : ((t.length - 1 : Nat) : Int) < (t.length : Int) := by omega
      have ht0 : (0 : Int) ≤ ((t.length - 1 : Nat) : Int) := by omega
      have htn2 : t.length + 1 ≤ n := by omega
      have hf2 : n - (t.length + 1) ≤ f := by omega
      clear ht h3 hz hL hgL hlv ih hl hbeq hg hsz hf htn hown0
      go_enter Tryz.func180, Tryz.ntmps180
      go_wp2_with fail
      go_loopw [2, 7] (fun ov x wr => ∃ (l : Nat) (dd : List (List Nat)), l ≤ L + 1 ∧ x = .int .i64 l ∧ LA wr B ov (dd.map up) ∧ Hid (dd ++ (downF l).flatMap (fun l => growF f (t ++ [l]) n) = dn ++ (downF (L + 1)).flatMap (fun l => growF f (t ++ [l]) n)) ∧ Grow w wr vo ov) (fun _ x _ => (intOf x).toNat)
      case atStart => exact ⟨L + 1, dn, Nat.le_refl _, by go_num, HO.out, rfl, Grow.refl _ _⟩
      case round =>
        obtain ⟨l, dd, hl, rfl, hla, HEQ, hgr⟩ := hrel
        clear HO
        have HO := Lib.hid hla
        have HG := Lib.hid hgr
        have HTR := Lib.hid (HT.out.kept hgr.1 (HT.out.1.bt.ne HB0.out (by decide)))
        have hws := hgr.1.size
        obtain ⟨vs1, hown1, -, -⟩ := hla
        have HBT := Lib.hid hown1.bt
        clear hgr hown1
        cases l with
        | zero =>
          have HE := Lib.hid (show dd = dn ++ (downF (L + 1)).flatMap (fun l => growF f (t ++ [l]) n) from by have h := HEQ.out; rw [downF] at h; simpa using h)
          go_wp2_with fail
          go_ret
          refine ⟨_, rfl, ?_, HG.out⟩
          rw [← HE.out]; exact HO.out
        | succ l =>
          have hq := HEQ.out
          rw [downF, List.flatMap_cons, ← List.append_assoc] at hq
          have HQ := Lib.hid hq
          have HSZ2 := Lib.hid (show dd.length + (growF f (t ++ [l + 1]) n).length ≤ 1000 from by
            have h1 := HSZ.out
            rw [← hq] at h1
            simp only [List.length_append] at h1
            omega)
          have HLV2 := Lib.hid (lvl_add HLV.out (show 1 ≤ l + 1 by omega) (by rw [HGL.out]; omega))
          have hl1 : (1 : Int) ≤ ((l + 1 : Nat) : Int) := by omega
          have hl64 : In64 ((l + 1 : Nat) : Int) := by unfold In64; omega
          have hwl : IntKind.i64.wrap (((l + 1 : Nat) : Int) - 1) = (l : Int) := by rw [IntWalk.i64_in _ (by omega)]; omega
          have hcl : ∃ z : Int, z = ((l + 1 : Nat) : Int) := ⟨_, rfl⟩
          obtain ⟨z, hz⟩ := hcl
          rw [← hz] at hl1 hl64 hwl ⊢
          have HZ := Lib.hid hz
          have HUZ := Lib.hid (show up [l + 1] = [z] from by rw [hz]; rfl)
          clear hq hz HEQ
          go_wp2_with (first
            | (go_at_call 158; refine (s_l01OwnT _ _ (up t) HTR.out.ints (by rw [up_len]; omega)).mono ?_; rintro e w3 ⟨x3, rfl, ho3, hb3⟩; have HO3 := Lib.hid ho3; have HB3 := Lib.hid hb3; clear hb3 ho3)
            | (at_builtin; refine wpList_app1 T_int HO3.out.1 (by rw [ints_len, up_len]; omega) HB3.out.size (by rfl) rfl (by rfl) (by rfl) (by rfl) ?_; intro v5 w5 hown5 hgr5; have HN5 := Lib.hid (own_pushed HO3.out.2 hl64 hown5 HUZ.out); have HB5 := Lib.hid (hgr5.below HB3.out HB3.out.size HO3.out.1.ge); clear hown5 hgr5)
            | (go_at_call 180; refine (IH.out _ _ _ (t ++ [l + 1]) n B wr.heap.size dd HN5.out (HO.out.below HB5.out) HLV2.out (by simp; omega) hn8 (by simp; omega) (Nat.le_trans hB (Nat.le_trans hws HB5.out.size)) HSZ2.out).mono ?_; rintro e w6 ⟨x6, rfl, hl6, hg6⟩; have HL6 := Lib.hid hl6; have HG6 := Lib.hid (HG.out.trans (Grow.pre HB5.out hg6)); clear hl6 hg6))
          go_roundw
          case rel => exact ⟨l, dd ++ growF f (t ++ [l + 1]) n, by omega, rfl, HL6.out, HQ.out, HG6.out⟩
          case measure => have h := HZ.out; simp [intOf]; omega

theorem s_l03Trees (w : World) (n : Nat) (h1 : 1 ≤ n) (h8 : n ≤ 8) :
    Calls Tryz.prog 133 #[.int .i64 n] w fun e w' => ∃ x, e = .returned x ∧ LA w' w.heap.size x ((treesN n).map up) ∧ Below w.heap.size w w' := by
  have HT := Lib.hid (grow_trees h1 h8)
  have HLE := Lib.hid (treesN_at h1 h8).1
  have OL := Lib.hid (show OwnInts (w.alloc (.cells #[.int .i64 0] tI)) w.heap.size tI (.slice (some ⟨w.heap.size, 0, none⟩) 1 1) (up [0]) from ⟨own_lit w tI [.int .i64 0] (by simp [maxLen]), fun z hz => by simp [up] at hz; subst hz; unfold In64; omega⟩)
  have HSZ := Lib.hid (show ([] : List (List Nat)).length + (growF 8 [0] n).length ≤ 1000 from by rw [HT.out]; have := HLE.out; simp; omega)
  go_enter Tryz.func133, Tryz.ntmps133
  go_wp2_with (go_at_call 180; refine (s_l03Grow 8 _ _ _ [0] n w.heap.size w.heap.size [] OL.out (LA.nil _ _) rfl (by simpa using h1) h8 (by simp; omega) (by simp) HSZ.out).mono ?_; rintro e w6 ⟨x6, rfl, hl6, hg6⟩; have HL6 := Lib.hid hl6; have HG6 := Lib.hid hg6; clear hl6 hg6)
  go_ret
  refine ⟨_, rfl, ?_, HG6.out.below (below1 w _) (below1 w _).size (fun b hb => by simp [Value.ownBlock] at hb)⟩
  have h := HL6.out
  rw [List.nil_append, HT.out] at h
  exact h
end Go.Proofs.YtdjhfeaimmpmhaaGreat

set_option maxRecDepth 100000
set_option linter.unusedVariables false
set_option linter.unusedSimpArgs false
namespace Go.Proofs.YtdjhfeaimmpmhaaGreat
open Go.RowKit

theorem runN_le (a : Nat) : ∀ ls : List Nat, runN a ls ≤ ls.length
  | [] => Nat.le_refl _
  | l :: ls => by rw [runN]; cases Nat.blt a l <;> simp [runN_le a ls]
theorem endN_le {t : List Nat} {node : Nat} (h : node < t.length) : node + 1 ≤ endN t node ∧ endN t node ≤ t.length := by
  unfold endN
  have := runN_le (t.getD node 0) (t.drop (node + 1))
  rw [List.length_drop] at this
  omega

set_option maxHeartbeats 4000000 in
theorem s_l04End (w : World) (v : Value) (t : List Nat) (node : Nat) (ha : Ints w v (up t)) (hn : node < t.length) (h8 : t.length ≤ 1000) :
    Calls Tryz.prog 178 #[v, .int .i64 node] w fun e w' => e = .returned (.int .i64 (endN t node : Nat)) ∧ ∃ n, w' = w.drewN n := by
  obtain ⟨A, c, rfl, l1, l2, h3⟩ := ha.open_
  rw [up_len] at l1 h3 ⊢
  obtain ⟨ad, z, rfl, hz, -, hcz⟩ := h3 node hn
  obtain ⟨a, hl, rfl⟩ := up_getD hz
  have H3 := Lib.hid h3
  have HE := Lib.hid (show endN t node = node + 1 + runN a (t.drop (node + 1)) from by unfold endN; simp [List.getD, hl])
  rw [HE.out]
  have hw1 : IntKind.i64.wrap ((node : Int) + 1) = (node : Int) + 1 := IntWalk.i64_in _ (by omega)
  have hni : (node : Int) < (t.length : Int) := by omega
  have hn0 : (0 : Int) ≤ (node : Int) := by omega
  have HV := Lib.hid (rfl : node + 1 + runN a (t.drop (node + 1)) = node + 1 + runN a (t.drop (node + 1)))
  generalize hR : node + 1 + runN a (t.drop (node + 1)) = R
  have HR := Lib.hid hR
  clear hz hl h3 hR
  go_enter Tryz.func178, Tryz.ntmps178
  go_wp2_with fail
  go_loopw [5] (fun x wr => ∃ e nd : Nat, e ≤ t.length ∧ x = .int .i64 e ∧ Hid (e + runN a (t.drop e) = R) ∧ wr = w.drewN nd) (fun x _ => t.length - (intOf x).toNat)
  case atStart => exact ⟨node + 1, 0, hn, by go_num, HR.out, rfl⟩
  case round =>
    obtain ⟨e, nd, he, rfl, HQ, rfl⟩ := hrel
    by_cases hlt : e < t.length
    · obtain ⟨ad', z, hae, hz, -, hce⟩ := H3.out e hlt
      injection hae with hae
      subst hae
      obtain ⟨b, hb, rfl⟩ := up_getD hz
      have hei : (e : Int) < (t.length : Int) := by omega
      have hed : decide ((e : Int) < (t.length : Int)) = true := by simp; omega
      have he0 : (0 : Int) ≤ (e : Int) := by omega
      have hq := HQ.out
      have hbt : t[e]'hlt = b := by rw [List.getElem?_eq_getElem hlt] at hb; injection hb
      rw [List.drop_eq_getElem_cons hlt, hbt, runN] at hq
      clear hz hb hbt HQ
      by_cases hab : a < b
      · have hd1 : decide ((a : Int) < (b : Int)) = true := by simp; omega
        have hd2 : (a : Int) < (b : Int) := by omega
        have hblt : Nat.blt a b = true := (blt_iff _ _).2 hab
        rw [hblt] at hq
        have HQ2 := Lib.hid (show e + 1 + runN a (t.drop (e + 1)) = R from by simp only [cond_true] at hq; omega)
        clear hq hab hblt
        go_wp2_with fail
        go_quiet (fail)
        go_wp2_with fail
        go_roundw
        case rel => exact ⟨e + 1, _, by omega, by go_num, HQ2.out, by first | rfl | exact World.drewN_drewN ..⟩
        case measure => simp [intOf]; omega
      · have hd1 : decide ((a : Int) < (b : Int)) = false := by simp; omega
        have hd2 : ¬ ((a : Int) < (b : Int)) := by omega
        have hblt : Nat.blt a b = false := by
          cases h : Nat.blt a b with
          | true => exact absurd ((blt_iff _ _).1 h) hab
          | false => rfl
        rw [hblt] at hq
        have HQ2 := Lib.hid (show e = R from by simp only [cond_false] at hq; omega)
        clear hq hab hblt
        go_wp2_with fail
        go_quiet (fail)
        go_wp2_with fail
        go_ret
        exact ⟨ret_int (by rw [HQ2.out]), _, World.drewN_drewN ..⟩
    · have hee : e = t.length := by omega
      have hq := HQ.out
      rw [List.drop_eq_nil_of_le (by omega), runN] at hq
      have HQ2 := Lib.hid (show e = R from by omega)
      have hei : ¬ ((e : Int) < (t.length : Int)) := by omega
      have hed : decide ((e : Int) < (t.length : Int)) = false := by simp; omega
      have hed2 : ¬ (e < t.length) := by omega
      have hed3 : decide (e < t.length) = false := by simp; omega
      clear hq hee HQ
      go_wp2_with fail
      go_quiet (fail)
      go_wp2_with fail
      go_ret
      exact ⟨ret_int (by rw [HQ2.out]), _, World.drewN_drewN ..⟩
end Go.Proofs.YtdjhfeaimmpmhaaGreat

