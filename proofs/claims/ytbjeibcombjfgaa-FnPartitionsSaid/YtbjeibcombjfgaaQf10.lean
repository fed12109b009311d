/- Plain: a tree made from its neighbours is the canonical list of the list that is made without sorting. | Plain: a canonical tree cut up above the nodes of a mask: the program's pieces and skeleton and the reference's are made from the same lists. | Walks: isCutMask, checkCutMask of the program. | Plain: what holds of the program's state while it cuts a tree up. | A region that draws its order and stores at its end what it has loaded: those loads may be taken first. No program in sight. | Steps in a region that draws: append of one element, of a list, make. No program in sight. -/
import Derived.Test.YtbjeibcombjfgaaQf7
import Derived.Test.YtbjeibcombjfgaaQf8
import Derived.Test.YtbjeibcombjfgaaQf9
import Derived.OrdersHeld
import Derived.RegionTactic
import Derived.Deep.RegionHeld
set_option linter.unusedVariables false
set_option linter.unusedSimpArgs false
set_option maxRecDepth 100000
namespace Go.Proofs.Ytbjeibcombjfgaa

/-- the list of the tree with a root whose nodes are joined to others, its branches as they come -/
def rawO : Nat → List (List Nat) → Nat → Nat → Option (List Nat)
  | 0, _, _, _ => none
  | f + 1, near, root, fr => match near[root]? with
    | none => none
    | some ns => match mapO (fun n => rawO f near n (root + 1)) (ns.filter fun n => !Nat.beq (n + 1) fr) with
      | none => none
      | some bs => some (rootN bs)

theorem mapO_imp {α β : Type} {g g' : α → Option β} : ∀ {xs : List α} {ys : List β}, (∀ x ∈ xs, ∀ y, g x = some y → g' x = some y) → mapO g xs = some ys → mapO g' xs = some ys
  | [], ys, _, h => by simpa [mapO] using h
  | x :: xs, ys, hg, h => by
    obtain ⟨y, ys', rfl, hy, h'⟩ := mapO_cons h
    rw [mapO, hg x (by simp) y hy, mapO_imp (fun z hz => hg z (by simp [hz])) h']
theorem mapO_of {α β : Type} {g : α → Option β} : ∀ {xs : List α} {ys : List β}, ys.length = xs.length → (∀ (k : Nat) (x : α), xs[k]? = some x → ∃ y, ys[k]? = some y ∧ g x = some y) → mapO g xs = some ys
  | [], [], _, _ => rfl
  | [], _ :: _, h, _ => by simp at h
  | _ :: _, [], h, _ => by simp at h
  | x :: xs, y :: ys, hl, h => by
    obtain ⟨y', h1, h2⟩ := h 0 x (by simp)
    simp at h1; subst h1
    rw [mapO, h2, mapO_of (by simpa using hl) (fun k z hz => by simpa using h (k + 1) z (by simpa using hz))]
theorem mapO_ex {α β : Type} {g : α → Option β} : ∀ {xs : List α}, (∀ x ∈ xs, ∃ y, g x = some y) → ∃ ys, mapO g xs = some ys
  | [], _ => ⟨[], rfl⟩
  | x :: xs, h => by
    obtain ⟨y, hy⟩ := h x (by simp)
    obtain ⟨ys, hys⟩ := mapO_ex (xs := xs) fun z hz => h z (by simp [hz])
    exact ⟨y :: ys, by rw [mapO, hy, hys]⟩

theorem addLast_snoc (x : Nat) : ∀ (out : List (List Nat)) (b : List Nat), addLast x (out ++ [b]) = out ++ [b ++ [x]]
  | [], b => rfl
  | [a], b => rfl
  | a :: c :: out, b => by
    have := addLast_snoc x (c :: out) b
    rw [List.cons_append] at this
    rw [List.cons_append, List.cons_append, addLast, this]
    rfl
theorem brF_append : ∀ (out : List (List Nat)) (a c : List Nat), brF out (a ++ c) = match brF out a with
    | none => none
    | some o => brF o c
  | out, [], c => rfl
  | out, x :: a, c => by
    rw [List.cons_append, brF, brF]
    cases brStep out x with
    | none => rfl
    | some o => exact brF_append o a c
theorem brF_rest : ∀ (out : List (List Nat)) (b c : List Nat), (∀ l ∈ c, 1 ≤ l) → brF (out ++ [b]) (bump c) = some (out ++ [b ++ c])
  | out, b, [], _ => by simp [bump, brF]
  | out, b, x :: c, h => by
    obtain ⟨x', rfl⟩ : ∃ x', x = x' + 1 := ⟨x - 1, by have := h x (by simp); omega⟩
    rw [bump, brF]
    have hs : brStep (out ++ [b]) (x' + 1 + 1) = some (out ++ [b ++ [x' + 1]]) := by
      have := addLast_snoc (x' + 1) out b
      cases ho : out ++ [b] with
      | nil => simp at ho
      | cons a os => rw [ho] at this; rw [brStep, this]
    rw [hs]
    have := brF_rest out (b ++ [x' + 1]) c fun l hl => h l (by simp [hl])
    simpa using this
theorem lvlF_pos : ∀ {p : Nat} {t : List Nat}, lvlF p t = true → ∀ l ∈ t, 1 ≤ l
  | p, [], _ => by simp
  | p, x :: t, h => by
    rw [lvlF] at h
    cases h1 : Nat.ble 1 x with
    | false => rw [h1] at h; cases h
    | true =>
      cases h2 : Nat.ble x (p + 1) with
      | false => rw [h1, h2] at h; cases h
      | true =>
        rw [h1, h2] at h
        intro l hl
        rcases List.mem_cons.1 hl with rfl | hl
        · exact Nat.le_of_ble_eq_true h1
        · exact lvlF_pos h l hl
theorem lvl_cons {t : List Nat} (h : lvl t = true) : ∃ c, t = 0 :: c ∧ lvlF 0 c = true := by
  cases t with
  | nil => cases h
  | cons a c =>
    rw [lvl] at h
    cases h1 : Nat.beq a 0 with
    | false => rw [h1] at h; cases h
    | true => rw [h1] at h; have := Nat.eq_of_beq_eq_true h1; subst this; exact ⟨c, rfl, h⟩
theorem brF_bumps : ∀ (out bs : List (List Nat)), (∀ b ∈ bs, lvl b = true) → brF out (bumps bs) = some (out ++ bs)
  | out, [], _ => by simp [bumps, brF]
  | out, b :: bs, h => by
    obtain ⟨c, rfl, hc⟩ := lvl_cons (h b (by simp))
    rw [bumps, brF_append, bump, brF]
    have : brStep out (0 + 1) = some (out ++ [[0]]) := rfl
    rw [this]
    simp only
    rw [brF_rest out [0] c (lvlF_pos hc)]
    simp only
    rw [brF_bumps _ bs fun x hx => h x (by simp [hx])]
    simp
theorem brO_root {bs : List (List Nat)} (h : ∀ b ∈ bs, lvl b = true) : brO (rootN bs) = some bs := by
  rw [rootN, brO, brF_bumps [] bs h]; rfl
theorem lvlF_bump : ∀ {p : Nat} {t d : List Nat}, lvlF p t = true → (∀ q, lvlF q d = true) → lvlF (p + 1) (bump t ++ d) = true
  | p, [], d, _, hd => hd _
  | p, x :: t, d, h, hd => by
    rw [lvlF] at h
    cases h1 : Nat.ble 1 x with
    | false => rw [h1] at h; cases h
    | true =>
      cases h2 : Nat.ble x (p + 1) with
      | false => rw [h1, h2] at h; cases h
      | true =>
        rw [h1, h2] at h
        rw [bump, List.cons_append, lvlF, Nat.ble_eq_true_of_le (by omega), Nat.ble_eq_true_of_le (by have := Nat.le_of_ble_eq_true h2; omega)]
        exact lvlF_bump h hd
theorem lvlF_bumps : ∀ {bs : List (List Nat)}, (∀ b ∈ bs, lvl b = true) → ∀ q, lvlF q (bumps bs) = true
  | [], _, q => rfl
  | b :: bs, h, q => by
    obtain ⟨c, rfl, hc⟩ := lvl_cons (h b (by simp))
    rw [bumps, bump, List.cons_append, lvlF]
    simp only [Nat.zero_add, Nat.ble_eq_true_of_le (Nat.le_refl 1), Nat.ble_eq_true_of_le (show 1 ≤ q + 1 by omega), cond_true]
    exact lvlF_bump hc (lvlF_bumps fun x hx => h x (by simp [hx]))
theorem lvl_root {bs : List (List Nat)} (h : ∀ b ∈ bs, lvl b = true) : lvl (rootN bs) = true := by
  rw [rootN, lvl]; exact lvlF_bumps h 0

theorem canO_9 {t : List Nat} (ht : lvl t = true) (hl : t.length ≤ 8) : canO 8 t = canO 9 t := by
  have h := lev8 (p := fun t => match canO 8 t, canO 9 t with | some a, some b => eqN a b | _, _ => false) (by decide +kernel) ht hl
  cases h8 : canO 8 t with
  | none => rw [h8] at h; cases h
  | some a =>
    cases h9 : canO 9 t with
    | none => rw [h8, h9] at h; cases h
    | some b => rw [h8, h9] at h; rw [eqN_iff.1 h]
theorem canO_rootN {bs : List (List Nat)} {cs : List (List Nat)} (h : ∀ b ∈ bs, lvl b = true) (hm : mapO (canO 8) bs = some cs) : canO 9 (rootN bs) = some (rootN (srtD cs)) := by
  rw [canO, brO_root h]
  simp only
  rw [hm]

theorem len_bumps_mem {b : List Nat} {bs : List (List Nat)} (h : b ∈ bs) : b.length + 1 ≤ (rootN bs).length := by
  rw [rootN, List.length_cons, bumps_len]
  have := brLen_memb h
  omega
theorem tfO_raw : ∀ {f : Nat} {near : List (List Nat)} {root fr : Nat} {q : List Nat}, rawO f near root fr = some q → q.length ≤ 8 → lvl q = true ∧ tfO f near root fr = canO 9 q
  | 0, near, root, fr, q, h, _ => by cases h
  | f + 1, near, root, fr, q, h, h8 => by
    rw [rawO] at h
    rw [tfO]
    cases hn : near[root]? with
    | none => rw [hn] at h; cases h
    | some ns =>
      rw [hn] at h
      simp only at h ⊢
      cases hm : mapO (fun n => rawO f near n (root + 1)) (ns.filter fun n => !Nat.beq (n + 1) fr) with
      | none => rw [hm] at h; cases h
      | some raws =>
        rw [hm] at h
        simp only [Option.some.injEq] at h
        subst h
        have hall : ∀ b ∈ raws, lvl b = true ∧ b.length ≤ 8 ∧ ∃ x ∈ (ns.filter fun n => !Nat.beq (n + 1) fr), rawO f near x (root + 1) = some b := by
          intro b hb
          obtain ⟨x, hx, hxb⟩ := mapO_all hm b hb
          have hl := len_bumps_mem hb
          exact ⟨(tfO_raw hxb (by omega)).1, by omega, x, hx, hxb⟩
        have hlv : ∀ b ∈ raws, lvl b = true := fun b hb => (hall b hb).1
        refine ⟨lvl_root hlv, ?_⟩
        obtain ⟨cs, hcs⟩ := mapO_ex (g := canO 9) (xs := raws) fun b hb => by
          obtain ⟨r, hr, -, -⟩ := canO_8 (hall b hb).1 (hall b hb).2.1
          exact ⟨r, hr⟩
        have hm2 : mapO (fun n => tfO f near n (root + 1)) (ns.filter fun n => !Nat.beq (n + 1) fr) = some cs := by
          refine mapO_of (by rw [mapO_len hcs, mapO_len hm]) fun k x hx => ?_
          obtain ⟨b, hb, hxb⟩ := mapO_get hm k x hx
          obtain ⟨c, hc, hbc⟩ := mapO_get hcs k b hb
          have hbm := List.mem_of_getElem? hb
          exact ⟨c, hc, by rw [(tfO_raw hxb (hall b hbm).2.1).2, hbc]⟩
        rw [hm2]
        simp only
        have h1 : mapO (canO 8) raws = some cs := mapO_imp (fun b hb y hy => by rw [canO_9 (hall b hb).1 (hall b hb).2.1]; exact hy) hcs
        have hcl : ∀ c ∈ cs, lvl c = true ∧ canO 8 c = some c := by
          intro c hc
          obtain ⟨b, hb, hbc⟩ := mapO_all hcs c hc
          obtain ⟨r, hr, h2, h3⟩ := canO_8 (hall b hb).1 (hall b hb).2.1
          rw [hbc] at hr
          injection hr with hr
          subst hr
          exact ⟨h2, by rw [canO_9 h2 (by rw [canO_len hbc]; exact (hall b hb).2.1)]; exact h3⟩
        have h2 : mapO (canO 8) cs = some cs := mapO_of rfl fun k c hc => ⟨c, hc, (hcl c (List.mem_of_getElem? hc)).2⟩
        rw [canO_rootN hlv h1, canO_rootN (fun c hc => (hcl c hc).1) h2]
end Go.Proofs.Ytbjeibcombjfgaa

set_option linter.unusedVariables false
set_option linter.unusedSimpArgs false
set_option maxRecDepth 100000
namespace Go.Proofs.Ytbjeibcombjfgaa

/-- what the program knows of the nodes so far: the neighbours in the pieces, the piece of each node, the pieces' roots, the joints -/
structure CutS where
  near : List (List Nat)
  top : List Nat
  tops : List Nat
  bet : List (Nat × Nat)
def cutStep (mask : Nat) (s : CutS) (i p : Nat) : CutS :=
  match p with
  | 0 => ⟨s.near, s.top.set i s.tops.length, s.tops ++ [i], s.bet⟩
  | k + 1 => bif mask.testBit i then ⟨s.near, s.top.set i s.tops.length, s.tops ++ [i], s.bet ++ [(s.top.getD k 0, s.tops.length)]⟩
    else ⟨addAt i k (addAt k i s.near), s.top.set i (s.top.getD k 0), s.tops, s.bet⟩
def cutF (mask : Nat) (s : CutS) : List Nat → Nat → CutS
  | [], _ => s
  | p :: ps, i => cutF mask (cutStep mask s i p) ps (i + 1)
def cutN (t : List Nat) (mask : Nat) : CutS := cutF mask ⟨List.replicate t.length [], List.replicate t.length 0, [], []⟩ (parents t) 0
def joinF (near : List (List Nat)) : List (Nat × Nat) → List (List Nat)
  | [] => near
  | (a, b) :: es => joinF (addAt a b (addAt b a near)) es
def joinN (s : CutS) : List (List Nat) := joinF (List.replicate s.tops.length []) s.bet

/-- the nodes of a piece of the reference's: whether each is in it, and its list -/
def pieF (t : List Nat) (mask root : Nat) : List Nat → Nat → List Bool → List Nat → List Nat
  | [], _, _, out => out
  | l :: ls, i, inn, out =>
    let p := parN t l i
    bif Nat.blt root p && (inn.getD (p - 1) false && !mask.testBit i) then pieF t mask root ls (i + 1) (inn.set i true) (out ++ [l - t.getD root 0])
    else pieF t mask root ls (i + 1) inn out
def pieN (t : List Nat) (mask root : Nat) : List Nat := pieF t mask root (t.drop (root + 1)) (root + 1) ((List.replicate t.length false).set root true) [0]
/-- the nodes at which the reference cuts -/
def cutsN (mask : Nat) : Nat → Nat → List Nat
  | 0, _ => []
  | n + 1, i => bif mask.testBit i then i :: cutsN mask n (i + 1) else cutsN mask n (i + 1)
/-- the number of nodes with a cut on the way from a node (by one more than its place) to the root -/
def wayN (t : List Nat) (mask : Nat) : Nat → Nat → Nat
  | 0, _ => 0
  | f + 1, 0 => 0
  | f + 1, 1 => 0
  | f + 1, k + 2 => (bif mask.testBit (k + 1) then 1 else 0) + wayN t mask f (parN t (t.getD (k + 1) 0) (k + 1))
def sklN (t : List Nat) (mask : Nat) : List Nat := 0 :: (cutsN mask (t.length - 1) 1).map fun i => 1 + wayN t mask 9 (parN t (t.getD i 0) i)

def okCut (t : List Nat) (mask : Nat) : Bool :=
  let s := cutN t mask
  eqN s.tops (0 :: cutsN mask (t.length - 1) 1) && (s.tops.all (fun i => match rawO 9 s.near i 0 with | none => false | some q => eqN q (pieN t mask i) && Nat.ble q.length 8) &&
    match rawO 9 (joinN s) 0 0 with | none => false | some q => eqN q (sklN t mask) && Nat.ble q.length 8)
def isCan (t : List Nat) : Bool := match canO 9 t with | none => false | some r => eqN r t
def okTree (t : List Nat) : Bool := bif isCan t then (List.range (2 ^ (t.length - 1))).all fun m => okCut t (2 * m) else true
end Go.Proofs.Ytbjeibcombjfgaa

set_option maxRecDepth 100000
set_option linter.unusedVariables false
set_option linter.unusedSimpArgs false
namespace Go.Proofs.Ytbjeibcombjfgaa
open Go.RowKit

theorem cut_eq (n : Nat) (m : Int) : maskB n m = (inR m 0 (2 ^ n - 1) && (m % 2 == 0)) := by
  unfold maskB inR
  have : decide (m < 2 ^ n) = decide (m ≤ 2 ^ n - 1) := by congr 1; apply propext; omega
  rw [this, Bool.and_assoc]

theorem and1 (m : Int) (h0 : 0 ≤ m) (h1 : m ≤ 255) : bits BinOp.and IntKind.i64 m 1 = m % 2 := by
  have h := (by decide +kernel : ∀ k : Fin 256, bits BinOp.and IntKind.i64 ((k.val : Nat) : Int) 1 = ((k.val : Nat) : Int) % 2) ⟨m.toNat, by omega⟩
  simpa [Int.toNat_of_nonneg h0] using h

set_option maxHeartbeats 2000000 in
theorem i_isCutMask (w : World) (v : Value) (zs : List Int) (m : Int) (ha : Ints w v zs) (hn : zs.length ≤ 8) :
    Calls Try.prog 156 #[v, .int .i64 m] w fun e w' => e = .returned (.bool (maskB zs.length m)) ∧ w = w' := by
  obtain ⟨A, c, rfl, l1, l2, -⟩ := ha.open_
  clear ha
  rw [cut_eq]
  generalize zs.length = n at hn l1 ⊢
  have hn' : n = 0 ∨ n = 1 ∨ n = 2 ∨ n = 3 ∨ n = 4 ∨ n = 5 ∨ n = 6 ∨ n = 7 ∨ n = 8 := by omega
  clear hn l1
  rcases hn' with rfl | rfl | rfl | rfl | rfl | rfl | rfl | rfl | rfl
  all_goals
    go_enter Try.func156, Try.ntmps156
    go_wp2_with (go_at_call 62; refine (i_inRange _ _ _ _).mono ?_; rintro e w' ⟨rfl, rfl⟩)
    all_goals (go_ret; exact ⟨ret_bool (by first | (rename_i h; have h2 := inR_iff.1 h; simp [and1 m (by omega) (by omega), h]; done) | (rename_i h; simp_all; done)), rfl⟩)
end Go.Proofs.Ytbjeibcombjfgaa

set_option linter.unusedVariables false
set_option linter.unusedSimpArgs false
namespace Go.Proofs.Ytbjeibcombjfgaa

theorem cutF_snoc (mask : Nat) : ∀ (s : CutS) (ps : List Nat) (i p : Nat), cutF mask s (ps ++ [p]) i = cutStep mask (cutF mask s ps i) (i + ps.length) p
  | s, [], i, p => rfl
  | s, q :: ps, i, p => by rw [List.cons_append, cutF, cutF, cutF_snoc mask _ ps (i + 1) p, List.length_cons]; congr 1; omega
def cutTo (t : List Nat) (mask j : Nat) : CutS := cutF mask ⟨List.replicate t.length [], List.replicate t.length 0, [], []⟩ ((parents t).take j) 0
theorem cutTo_succ {t : List Nat} {mask j : Nat} (hlt : j < t.length) : cutTo t mask (j + 1) = cutStep mask (cutTo t mask j) j (parN t (t.getD j 0) j) := by
  have htj : t[j]? = some (t[j]'hlt) := List.getElem?_eq_getElem _
  have hg : t.getD j 0 = t[j]'hlt := by simp [List.getD, htj]
  unfold cutTo
  rw [List.take_add_one, parents_get htj, hg]
  show cutF _ _ (_ ++ [_]) 0 = _
  rw [cutF_snoc, List.length_take, parents_len, Nat.min_eq_left (by omega), Nat.zero_add]
theorem cutTo_all (t : List Nat) (mask : Nat) : cutTo t mask t.length = cutN t mask := by
  unfold cutTo cutN
  rw [← parents_len, List.take_length, parents_len]

structure CI (n j : Nat) (s : CutS) : Prop where
  near : NB s.near (2 * j) n
  top : s.top.length = n ∧ ∀ x ∈ s.top, x ≤ s.tops.length
  tops : s.tops.length ≤ j ∧ ∀ x ∈ s.tops, x < n
  bet : s.bet.length ≤ j ∧ ∀ p ∈ s.bet, p.1 < s.tops.length ∧ p.2 < s.tops.length
theorem CI.start (n : Nat) : CI n 0 ⟨List.replicate n [], List.replicate n 0, [], []⟩ :=
  ⟨NB.nil _ _ _, ⟨by simp, fun x hx => by have := List.eq_of_mem_replicate hx; omega⟩, ⟨Nat.le_refl _, fun x hx => by simp at hx⟩, ⟨Nat.le_refl _, fun x hx => by simp at hx⟩⟩
theorem CI.topLe {n j : Nat} {s : CutS} (h : CI n j s) (k : Nat) : s.top.getD k 0 ≤ s.tops.length := by
  cases hx : s.top[k]? with
  | none => simp [List.getD, hx]
  | some x => have := h.top.2 x (List.mem_of_getElem? hx); simpa [List.getD, hx] using this
theorem CI.step {n j P mask : Nat} {s : CutS} (h : CI n j s) (hj : j < n) (hP : P ≤ j) : CI n (j + 1) (cutStep mask s j P) := by
  have hnew : ∀ x ∈ s.top.set j s.tops.length, x ≤ (s.tops ++ [j]).length := by
    intro x hx
    rcases List.mem_or_eq_of_mem_set hx with hx | hx
    · have := h.top.2 x hx; simp; omega
    · simp [hx]
  have htops : (s.tops ++ [j]).length ≤ j + 1 ∧ ∀ x ∈ s.tops ++ [j], x < n := by
    refine ⟨by have := h.tops.1; simp; omega, fun x hx => ?_⟩
    rcases List.mem_append.1 hx with hx | hx
    · exact h.tops.2 x hx
    · simp at hx; omega
  cases P with
  | zero =>
    exact ⟨h.near.mono (by omega), ⟨by simp [cutStep, h.top.1], hnew⟩, htops, ⟨by have := h.bet.1; show s.bet.length ≤ _; omega, fun p hp => by have := h.bet.2 p hp; simp [cutStep]; omega⟩⟩
  | succ k =>
    rw [cutStep]
    cases mask.testBit j with
    | true =>
      refine ⟨h.near.mono (by omega), ⟨by simp [h.top.1], hnew⟩, htops, ⟨by have := h.bet.1; simp; omega, fun p hp => ?_⟩⟩
      simp only [cond_true, List.length_append, List.length_singleton] at hp ⊢
      rcases List.mem_append.1 hp with hp | hp
      · have := h.bet.2 p hp; omega
      · simp at hp
        have := h.topLe k
        subst hp
        simp only [List.getD_eq_getElem?_getD] at this
        exact ⟨by simpa using Nat.lt_succ_of_le this, by simp⟩
    | false =>
      refine ⟨((h.near.add (x := k) (i := j) (by omega)).add (x := j) (i := k) hj).mono (by omega), ⟨by simp [h.top.1], fun x hx => ?_⟩, ⟨by have := h.tops.1; simp; omega, h.tops.2⟩, ⟨by have := h.bet.1; simp; omega, h.bet.2⟩⟩
      rcases List.mem_or_eq_of_mem_set hx with hx | hx
      · exact h.top.2 x hx
      · rw [hx]; exact h.topLe k
theorem cutTo_ci (t : List Nat) (mask : Nat) : ∀ j, j ≤ t.length → CI t.length j (cutTo t mask j)
  | 0, _ => CI.start _
  | j + 1, h => by rw [cutTo_succ (by omega)]; exact (cutTo_ci t mask j (by omega)).step (by omega) (parN_le _ _ _)

theorem joinF_snoc : ∀ (near : List (List Nat)) (es : List (Nat × Nat)) (a b : Nat), joinF near (es ++ [(a, b)]) = addAt a b (addAt b a (joinF near es))
  | near, [], a, b => rfl
  | near, (c, d) :: es, a, b => by rw [List.cons_append, joinF, joinF, joinF_snoc]
def joinTo (k : Nat) (es : List (Nat × Nat)) (j : Nat) : List (List Nat) := joinF (List.replicate k []) (es.take j)
theorem joinTo_succ {k j a b : Nat} {es : List (Nat × Nat)} (h : es[j]? = some (a, b)) : joinTo k es (j + 1) = addAt a b (addAt b a (joinTo k es j)) := by
  unfold joinTo
  rw [List.take_add_one, h]
  exact joinF_snoc _ _ _ _
theorem joinTo_all (s : CutS) : joinTo s.tops.length s.bet s.bet.length = joinN s := by
  unfold joinTo joinN
  rw [List.take_length]
theorem joinTo_nb {k : Nat} {es : List (Nat × Nat)} (h : ∀ p ∈ es, p.1 < k ∧ p.2 < k) : ∀ j, j ≤ es.length → NB (joinTo k es j) (2 * j) k
  | 0, _ => by unfold joinTo; exact NB.nil _ _ _
  | j + 1, hj => by
    have hp : es[j]? = some ((es[j]'(by omega)).1, (es[j]'(by omega)).2) := List.getElem?_eq_getElem _
    have hb := h _ (List.mem_of_getElem? hp)
    rw [joinTo_succ hp]
    exact (((joinTo_nb h j (by omega)).add hb.2).add hb.1).mono (by omega)

/-- the bit of a mask, as the program reckons it -/
theorem cut_bit (m j : Nat) (hm : m < 256) : bits BinOp.and IntKind.i64 ((m : Int) / 2 ^ j) 1 = if m.testBit j then 1 else 0 := by
  have e : ((m : Int) / 2 ^ j) = ((m / 2 ^ j : Nat) : Int) := by simp
  have hle : m / 2 ^ j ≤ m := Nat.div_le_self _ _
  rw [e, Nat.testBit_eq_decide_div_mod_eq]
  generalize m / 2 ^ j = q at hle ⊢
  rw [and1 _ (by omega) (by omega)]
  by_cases h : q % 2 = 1
  · simp [h]; omega
  · simp [h]; omega
end Go.Proofs.Ytbjeibcombjfgaa

set_option linter.unusedVariables false
set_option linter.unusedSimpArgs false
namespace Go.Proofs.Ytbjeibcombjfgaa
open Go

section
variable {P : Program} {ops : Array Oper} {Q : Exit → Act → World → Prop} {md : Region.Mode} {S : Bool → World → Prop} {k : Nat}

/-- whatever order comes: 'S false' holds of the worlds ahead of operation k, 'S true' of those behind it -/
def AnyT (P : Program) (md : Region.Mode) (ops : Array Oper) (Q : Exit → Act → World → Prop) (S : Bool → World → Prop) (k : Nat) : Nat → Array Bool → Act → World → Prop
  | 0, L, a, w => Region.ready md ops L = [] ∧ Q .normal a w
  | f + 1, L, a, w => (Region.ready md ops L = [] → Q .normal a w) ∧
      ∀ i ∈ Region.ready md ops L, wpOp P ops Q i (fun a' w' => S ((L.setIfInBounds i true).getD k true) w' ∧ AnyT P md ops Q S k f (L.setIfInBounds i true) a' w') a w

theorem AnyT.any : ∀ (f : Nat) (L : Array Bool) (a : Act) (w : World), AnyT P md ops Q S k f L a w → wpAny P md ops Q f L a w
  | 0, _, _, _, h => h
  | f + 1, _, _, _, h => ⟨h.1, fun i hi => wpOp_mono (fun a' w' h' => AnyT.any f _ a' w' h'.2) (h.2 i hi)⟩

theorem AnyT.first {i : Nat} {oi : Oper} {v : Value} {U : World → Prop} {G : Array Bool → Prop} (hi : ops[i]? = some oi)
    (hsel : ∀ (j : Nat) (o : Oper) cs b, ops[j]? = some o → o.op ≠ .select cs b)
    (hQ : ∀ c a w, Q (.panic c) (a.put oi.dst v) w → Q (.panic c) a w) (hik : i ≠ k)
    (hG : ∀ (L : Array Bool) (j : Nat), G L → i ∈ Region.ready md ops L → j ∈ Region.ready md ops L → j ≠ i → G (L.setIfInBounds j true))
    (hU : ∀ (L : Array Bool) (w : World), G L → S (L.getD k true) w → U w) :
    ∀ (f : Nat) (L : Array Bool) (a : Act) (w : World),
      (∀ j oj, ops[j]? = some oj → j ≠ i → L.getD j true = false → (∀ e ∈ oj.after, Region.binds md e = true → e.on ≠ i) → oi.apart ops oj = true) →
      i ∈ Region.ready md ops L → G L → YieldsIf P ops U oi v a → S (L.getD k true) w →
      AnyT P md ops Q S k f (L.setIfInBounds i true) (a.put oi.dst v) w → AnyT P md ops Q S k (f + 1) L a w := by
  have hkeep : ∀ (L : Array Bool), (L.setIfInBounds i true).getD k true = L.getD k true := fun L => getD_set_ne true hik
  intro f
  induction f with
  | zero =>
    intro L a w _ hr g hy hS H
    refine ⟨fun h => (by rw [h] at hr; cases hr), fun j hj => ?_⟩
    by_cases hji : j = i
    · subst hji
      exact hy.wpOp hi (hU L w g hS) ⟨by rw [hkeep]; exact hS, H⟩
    · have h1 := ready_mono hj hji
      rw [H.1] at h1
      cases h1
  | succ f ih =>
    intro L a w hfree hr g hy hS H
    refine ⟨fun h => (by rw [h] at hr; cases hr), fun j hj => ?_⟩
    by_cases hji : j = i
    · subst hji
      exact hy.wpOp hi (hU L w g hS) ⟨by rw [hkeep]; exact hS, H⟩
    · obtain ⟨hjun, oj, hoj, hall⟩ := mem_ready.1 hj
      have hiun := (mem_ready.1 hr).1
      have hnot : ∀ e ∈ oj.after, Region.binds md e = true → e.on ≠ i := fun e he hb heq => by
        have h1 := hall e he hb
        rw [heq] at h1
        rcases Nat.lt_or_ge i L.size with h' | h'
        · simp [h'] at hiun h1; rw [hiun] at h1; cases h1
        · simp [Array.getElem?_eq_none h'] at h1
      have h2 := wpOp_putIf hoj (hfree j oj hoj hji hjun hnot) (fun cs b => hsel i oi cs b hi) (fun cs b => hsel j oj cs b hoj) hQ hy (H.2 j (ready_mono hj hji))
      refine wpOp_mono (fun a' w' h3 => ?_) h2
      have e : (L.setIfInBounds i true).setIfInBounds j true = (L.setIfInBounds j true).setIfInBounds i true := Array.setIfInBounds_comm _ _ (Ne.symm hji)
      obtain ⟨hy', hS', H'⟩ := h3
      rw [e] at H'
      rw [e, hkeep] at hS'
      refine ⟨hS', ih (L.setIfInBounds j true) a' w' (fun m om hm hmi hun hno => hfree m om hm hmi ?_ hno) (ready_mono hr (Ne.symm hji)) (hG L j g hr hj hji) hy' hS' H'⟩
      by_cases hjm : j = m
      · subst hjm; exact hjun
      · rw [getD_set_ne true hjm] at hun; exact hun

/-- operation i, which yields in every world that meets S, may be taken first -/
theorem AnyT.take0 {i : Nat} {oi : Oper} {v : Value} {f : Nat} {L : Array Bool} {a : Act} {w : World} (hi : ops[i]? = some oi)
    (hs : Region.noSelect ops = true) (hf : Region.free md ops L i = true) (hr : (Region.ready md ops L).contains i = true) (hik : i ≠ k)
    (hQ : ∀ c a w, Q (.panic c) (a.put oi.dst v) w → Q (.panic c) a w) (hS : S (L.getD k true) w) (hy : YieldsIf P ops (fun w => ∃ b, S b w) oi v a)
    (h : AnyT P md ops Q S k f (L.setIfInBounds i true) (a.put oi.dst v) w) : AnyT P md ops Q S k (f + 1) L a w :=
  AnyT.first (G := fun _ => True) (U := fun w => ∃ b, S b w) hi (Region.noSelect_spec hs) hQ hik (fun _ _ _ _ _ _ => trivial) (fun L w _ h => ⟨_, h⟩) f L a w (Region.free_spec hi hf) (by simpa using hr) trivial hy hS h

/-- does operation k wait for i? -/
def waitsB (md : Region.Mode) (ops : Array Oper) (k i : Nat) : Bool := ((ops[k]?).map fun o => o.after.any fun e => Region.binds md e && e.on == i).getD false

/-- operation i, for which k waits, and which yields in every world ahead of k, may be taken first -/
theorem AnyT.take1 {i : Nat} {oi : Oper} {v : Value} {f : Nat} {L : Array Bool} {a : Act} {w : World} (hi : ops[i]? = some oi)
    (hs : Region.noSelect ops = true) (hf : Region.free md ops L i = true) (hr : (Region.ready md ops L).contains i = true) (hik : i ≠ k)
    (hk : waitsB md ops k i = true) (hkL : L.getD k true = false)
    (hQ : ∀ c a w, Q (.panic c) (a.put oi.dst v) w → Q (.panic c) a w) (hS : S (L.getD k true) w) (hy : YieldsIf P ops (S false) oi v a)
    (h : AnyT P md ops Q S k f (L.setIfInBounds i true) (a.put oi.dst v) w) : AnyT P md ops Q S k (f + 1) L a w := by
  refine AnyT.first (G := fun L => L.getD k true = false) (U := S false) hi (Region.noSelect_spec hs) hQ hik (fun L j g hr hj hji => ?_) (fun L w g h => by rw [g] at h; exact h) f L a w (Region.free_spec hi hf) (by simpa using hr) hkL hy hS h
  have hne : j ≠ k := by
    rintro rfl
    obtain ⟨-, oj, hoj, hall⟩ := mem_ready.1 hj
    have hiun := (mem_ready.1 hr).1
    unfold waitsB at hk
    rw [hoj] at hk
    simp only [Option.map_some, Option.getD_some, Array.any_eq_true', Bool.and_eq_true, beq_iff_eq] at hk
    obtain ⟨e, he, hb, hon⟩ := hk
    have h1 := hall e he hb
    rw [hon] at h1
    rcases Nat.lt_or_ge i L.size with h' | h'
    · simp [h'] at hiun h1; rw [hiun] at h1; cases h1
    · simp [Array.getElem?_eq_none h'] at h1
  rw [getD_set_ne true hne]
  exact g

/-- each of the operations rs comes next -/
def AllT (P : Program) (md : Region.Mode) (ops : Array Oper) (Q : Exit → Act → World → Prop) (S : Bool → World → Prop) (k : Nat) (f : Nat) (L : Array Bool) (a : Act) (w : World) (rs : List Nat) : Prop :=
  ∀ i ∈ rs, wpOp P ops Q i (fun a' w' => S ((L.setIfInBounds i true).getD k true) w' ∧ AnyT P md ops Q S k f (L.setIfInBounds i true) a' w') a w
theorem AllT.nil {f : Nat} {L : Array Bool} {a : Act} {w : World} : AllT P md ops Q S k f L a w [] := fun _ h => by cases h
theorem AllT.cons {f : Nat} {L : Array Bool} {a : Act} {w : World} {i : Nat} {o : Oper} {rs : List Nat} (ho : ops[i]? = some o)
    (h : ∀ K' : Act → World → Prop, Shut (∀ a w, S ((L.setIfInBounds i true).getD k true) w → (S ((L.setIfInBounds i true).getD k true) w → AnyT P md ops Q S k f (L.setIfInBounds i true) a w) → K' a w) →
      if Region.wanted o (yielded ops a.tmps) = true then Oper.wp P o a w K' Q else K' (a.put o.dst undef) w)
    (hs : AllT P md ops Q S k f L a w rs) : AllT P md ops Q S k f L a w (i :: rs) := fun j hj => by
  rcases List.mem_cons.1 hj with rfl | hj
  · exact wpOp_step ho (fun K' hK => h K' (fun a w hS hW => hK a w ⟨hS, hW hS⟩))
  · exact hs j hj
theorem AnyT.go {rs : List Nat} {f : Nat} {L : Array Bool} {a : Act} {w : World} (hr : Region.ready md ops L = rs) (hne : rs ≠ []) (h : AllT P md ops Q S k f L a w rs) : AnyT P md ops Q S k (f + 1) L a w :=
  ⟨fun h0 => absurd (hr ▸ h0) hne, hr ▸ h⟩
theorem AnyT.done {L : Array Bool} {a : Act} {w : World} (hr : Region.ready md ops L = []) (h : Q .normal a w) : ∀ f, AnyT P md ops Q S k f L a w
  | 0 => ⟨hr, h⟩
  | _ + 1 => ⟨fun _ => h, by rw [hr]; simp⟩
theorem AnyT.begin {id : Nat} {a : Act} {w : World} (hm : P.follows .mixedOrders = true) (h : AnyT P .any ops Q S k ops.size (Array.replicate ops.size false) a w.drew) : (Code.region id ops true).wp P Q a w :=
  wp_region_any hm (AnyT.any _ _ _ _ h)
end
end Go.Proofs.Ytbjeibcombjfgaa

set_option maxRecDepth 100000
set_option linter.unusedVariables false
set_option linter.unusedSimpArgs false
namespace Go.Proofs.Ytbjeibcombjfgaa
open Go.RowKit

/-- append of one element, met in a region that draws, where the element lies anywhere -/
theorem stp_app1 {P : Program} {ops : Array Oper} {o : Oper} {a : Act} {K : Act → World → Prop} {Q : Exit → Act → World → Prop} {E : Prop} {s x : Operand} {t : TypeId}
    {e : TypeId} {z : Value} {bytes : Nat} {B : Nat} {v : Value} {vs : List Value} {W : World} {u : Value} {ad : Addr}
    (T : ElemT P t e z bytes) (hown : Own W B e v vs) (hlen : vs.length < 1099511627776) (hB : B ≤ W.heap.size) (hu : u.oneCell' = true)
    (hgd : o.guard = none) (ho : o.op = .call { callee := .builtin .append, args := #[s, x], argTypes := #[t, t] }) (hs : a.eval s = v)
    (hx : a.eval x = .slice (some ad) 1 1) (hc : W.cell? ad = some u)
    (h : ∀ v' w', Own w' B e v' (vs ++ [u]) → Grow W w' v v' → K (a.put o.dst v') w') :
    if Region.wanted o (yielded ops a.tmps) = true then Oper.wp P o a W K Q else E := by
  have hw : Region.wanted o (yielded ops a.tmps) = true := by simp [Region.wanted, hgd]
  rw [if_pos hw]
  obtain ⟨i, hi, hz, h1, h2⟩ := info_parts T.info
  have hby := T.small
  obtain ⟨v', w', hrun, r1, r2, _, r3⟩ := run_append_own_at (P := P) W B t o.type e i z 1 bytes T.under hi hz h1 h2 (by rw [T.one]; rfl) (by omega) v vs.length vs hown ad 1 1 [u] rfl
    (fun j u' hj => by
      cases j with
      | zero =>
        simp at hj; subst hj
        exact hc
      | succ j => simp at hj) (by simpa using hu) (by simp only [maxLen]; omega) (by have := Nat.mul_le_mul_left (vs.length + 1) hby; omega) hB
  unfold Oper.wp execOp
  simp only [ho, resolve, invoke, builtin, Sem.run_bind, Sem.run_pure, Result.andThen_ok, List.map_toArray, List.map_cons, List.map_nil, hs, hx, hrun]
  refine h v' w' ?_ ⟨r2, ?_⟩
  · unfold Own; simpa using r1
  · rcases r3 with r3 | r3
    · exact .inl r3
    · exact .inr ⟨_, r3, Nat.le_refl _⟩

/-- the run of append of a list -/
theorem run_appN' {P : Program} {t e : TypeId} {z : Value} {bytes : Nat} {B : Nat} {v : Value} {vs : List Value} {W : World} {y : Value} {us : List Value}
    (T : ElemT P t e z bytes) (ty : TypeId) (hown : Own W B e v vs) (hy : Cells W y us) (hlen : vs.length + us.length < 1099511627776) (hB : B ≤ W.heap.size) (hu : ∀ u ∈ us, u.oneCell' = true) :
    ∃ v' w', (Builtin.append_ #[t, t] ty #[v, y]).run P W = .ok v' w' ∧ Own w' B e v' (vs ++ us) ∧ Grow W w' v v' := by
  obtain ⟨i, hi, hz, h1, h2⟩ := info_parts T.info
  have hby := T.small
  obtain ⟨A, c, rfl, hy1, hy2, hy3⟩ := hy
  cases A with
  | none =>
    have hus : us = [] := by
      cases us with
      | nil => rfl
      | cons u us => obtain ⟨ad, h, _⟩ := hy3 0 u rfl; cases h
    subst hus
    have hrun : (Builtin.append_ #[t, t] ty #[v, .slice none 0 c]).run P W = .ok v W := by
      rcases hown.cases with ⟨rfl, rfl⟩ | ⟨g, cap, cur, rfl, _, _, _, hnc, _⟩
      · simp [Builtin.append_, run_underlying T.under, sizeOf, typeInfo, hi, Builtin.lenOf, Builtin.firstCells]
      · simp [Builtin.append_, run_underlying T.under, sizeOf, typeInfo, hi, Builtin.lenOf, Builtin.firstCells, hnc, storeCells]
    exact ⟨v, W, hrun, by simpa using hown, World.grownBy.refl W _, .inl rfl⟩
  | some ad =>
    obtain ⟨v', w', hrun, r1, r2, _, r3⟩ := run_append_own_at (P := P) W B t ty e i z 1 bytes T.under hi hz h1 h2 (by rw [T.one]; rfl) (by omega) v vs.length vs hown ad us.length c us (by simp)
      (fun j u' hj => by obtain ⟨ad', h, hc⟩ := hy3 j u' hj; injection h with h; subst h; exact hc) hu (by simp only [maxLen]; omega) (by have := Nat.mul_le_mul_left (vs.length + us.length) hby; omega) hB
    refine ⟨v', w', hrun, ?_, r2, ?_⟩
    · unfold Own; simpa using r1
    · rcases r3 with r3 | r3
      · exact .inl r3
      · exact .inr ⟨_, r3, by simp⟩

/-- append of a list, met in a region that draws -/
theorem stp_appN {P : Program} {ops : Array Oper} {o : Oper} {a : Act} {K : Act → World → Prop} {Q : Exit → Act → World → Prop} {E : Prop} {s x : Operand} {t : TypeId}
    {e : TypeId} {z : Value} {bytes : Nat} {B : Nat} {v : Value} {vs : List Value} {W : World} {y : Value} {us : List Value}
    (T : ElemT P t e z bytes) (hown : Own W B e v vs) (hy : Cells W y us) (hlen : vs.length + us.length < 1099511627776) (hB : B ≤ W.heap.size) (hu : ∀ u ∈ us, u.oneCell' = true)
    (hgd : o.guard = none) (ho : o.op = .call { callee := .builtin .append, args := #[s, x], argTypes := #[t, t] }) (hs : a.eval s = v) (hx : a.eval x = y)
    (h : ∀ v' w', Own w' B e v' (vs ++ us) → Grow W w' v v' → K (a.put o.dst v') w') :
    if Region.wanted o (yielded ops a.tmps) = true then Oper.wp P o a W K Q else E := by
  have hw : Region.wanted o (yielded ops a.tmps) = true := by simp [Region.wanted, hgd]
  rw [if_pos hw]
  obtain ⟨v', w', hrun, r1, r2⟩ := run_appN' T o.type hown hy hlen hB hu
  unfold Oper.wp execOp
  simp only [ho, resolve, invoke, builtin, Sem.run_bind, Sem.run_pure, Result.andThen_ok, List.map_toArray, List.map_cons, List.map_nil, hs, hx, hrun]
  exact h v' w' r1 r2

end Go.Proofs.Ytbjeibcombjfgaa

