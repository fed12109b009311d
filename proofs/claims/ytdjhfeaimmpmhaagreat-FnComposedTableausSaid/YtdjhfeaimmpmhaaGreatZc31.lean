/- Spoilt tableaus (l09Spoil of the reference), in plain words of memory. No program in sight. | Walk: l09Spoil of the reference. | Walk: DrawRepeatTableau. -/
import Derived.Test.YtdjhfeaimmpmhaaGreatZc30
import Derived.Test.YtdjhfeaimmpmhaaGreatZc24
import Derived.Test.YtdjhfeaimmpmhaaGreatZc4
set_option linter.unusedVariables false
set_option linter.unusedSimpArgs false
namespace Go.Proofs.YtdjhfeaimmpmhaaGreat
open Go.RowKit

theorem apFlip {a b : Value} (h : Apart a b) : b.ownBlock = none ∨ b.ownBlock ≠ a.ownBlock := by
  unfold Apart at h
  cases hb : b.ownBlock with
  | none => exact .inl rfl
  | some x =>
    refine .inr fun e => ?_
    rcases h with h | h
    · rw [h] at e; cases e
    · exact h (e.symm.trans hb.symm)
theorem apGrow {w w' : World} {r r1 u : Value} (hg : Grow w w' r r1) (h : Apart r u) (hu : ∀ b, u.ownBlock = some b → b < w.heap.size) : Apart r1 u := by
  rcases hg.2 with e | ⟨b, e, hge⟩
  · unfold Apart at h ⊢; rw [e]; exact h
  · unfold Apart
    refine .inr fun e2 => ?_
    rw [e] at e2
    have := hu b e2.symm
    omega
section
variable {w w1 : World} {N g n cap : Nat} {vb r0 r1 : Value} {vs : List Value} {rows : List (List Int)} {zs0 Bs : List Int} {z : Int}
/-- row 0 grows by a number -/
theorem Two.row0 (h : Two w N (.slice (some ⟨g, 0, none⟩) n cap) vb (r0 :: vs) (zs0 :: rows) Bs) (hz : In64 z) (hown : Own w1 N tI r1 (ints zs0 ++ [.int .i64 z])) (hgr : Grow w w1 r0 r1) :
    (∃ u, w1.cell? ⟨g, 0, none⟩ = some u) ∧ w1.frozen? ⟨g, 0, none⟩ = false ∧ Two (w1.setCell ⟨g, 0, none⟩ r1) N (.slice (some ⟨g, 0, none⟩) n cap) vb (r1 :: vs) ((zs0 ++ [z]) :: rows) Bs ∧ w1.grownBy (w1.setCell ⟨g, 0, none⟩ r1) (some g) := by
  have hr0 := h.rows.2.1 0 r0 zs0 rfl rfl
  have ho1 := h.own.kept hgr.1 (Own.ne_of_type h.own hr0.1.1 (by decide))
  obtain ⟨u0, hu0, hcg, hfg, hg2, hg1, hown', hgr'⟩ := ho1.storeAt (k := 0) (by simp) r1
  have hset : ∀ {v : Value} {us : List Value}, Own w1 N tI v us → Own (w1.setCell ⟨g, 0, none⟩ r1) N tI v us := fun hv => hv.kept hgr' (Own.ne_of_type hv ho1 (by decide))
  have hw1 := h.ws.1.kept hgr.1 (apFlip (h.ap 0 r0 rfl))
  have hlt : ∀ k u, (r0 :: vs)[k]? = some u → ∃ zs, (zs0 :: rows)[k]? = some zs := fun k u hu => by
    have hk := (List.getElem?_eq_some_iff.1 hu).1
    rw [h.rows.1] at hk
    exact ⟨_, List.getElem?_eq_getElem hk⟩
  refine ⟨⟨_, hcg⟩, hfg, ⟨hown', ⟨?_, fun k u zs hu hx => ?_, fun i j u u' hij hu hu' => ?_⟩, ⟨hset hw1, h.ws.2⟩, fun k u hu => ?_⟩, hgr'⟩
  · have := h.rows.1; simp at this ⊢; exact this
  · cases k with
    | zero =>
      simp at hu hx
      subst hu hx
      refine OI.of ⟨hset (by simpa [ints] using hown), fun y hy => ?_⟩
      rcases List.mem_append.1 hy with hy | hy
      · exact hr0.1.2 y hy
      · simp at hy; subst hy; exact hz
    | succ k =>
      have ho := h.rows.2.1 (k + 1) u zs hu hx
      exact OI.of ⟨hset (ho.1.1.kept hgr.1 (apFlip (h.rows.2.2 0 (k + 1) r0 u (by omega) rfl hu))), ho.1.2⟩
  · cases i with
    | zero =>
      cases j with
      | zero => omega
      | succ j =>
        simp at hu
        subst hu
        obtain ⟨zs, hx⟩ := hlt (j + 1) u' hu'
        exact apGrow hgr (h.rows.2.2 0 (j + 1) r0 u' (by omega) rfl hu') (h.rows.2.1 (j + 1) u' zs hu' hx).2
    | succ i =>
      cases j with
      | zero => omega
      | succ j => exact h.rows.2.2 (i + 1) (j + 1) u u' hij hu hu'
  · cases k with
    | zero =>
      simp at hu
      subst hu
      exact apGrow hgr (h.ap 0 r0 rfl) h.ws.1.lt
    | succ k => exact h.ap (k + 1) u hu
/-- a number of row 0 is stored -/
theorem Two.cell0 {gr nr cr : Nat} {va : Value} (h : Two w N va vb (.slice (some ⟨gr, 0, none⟩) nr cr :: vs) (zs0 :: rows) Bs) (hz : In64 z) (hl : 0 < zs0.length) :
    (∃ u, w.cell? ⟨gr, 0, none⟩ = some u) ∧ w.frozen? ⟨gr, 0, none⟩ = false ∧ Two (w.setCell ⟨gr, 0, none⟩ (.int .i64 z)) N va vb (.slice (some ⟨gr, 0, none⟩) nr cr :: vs) (zs0.set 0 z :: rows) Bs ∧ w.grownBy (w.setCell ⟨gr, 0, none⟩ (.int .i64 z)) (some gr) := by
  have hr0 := h.rows.2.1 0 _ zs0 rfl rfl
  obtain ⟨u0, hu0, hcg, hfg, hg2, hg1, hown', hgr'⟩ := hr0.1.1.storeAt (k := 0) (by rw [ints_len]; exact hl) (.int .i64 z)
  have hn : OwnInts (w.setCell ⟨gr, 0, none⟩ (.int .i64 z)) N tI (.slice (some ⟨gr, 0, none⟩) nr cr) (zs0.set 0 z) := by
    refine ⟨by rw [show ints (zs0.set 0 z) = (ints zs0).set 0 (.int .i64 z) by simp [ints, List.map_set]]; exact hown', fun y hy => ?_⟩
    rcases List.mem_or_eq_of_mem_set hy with h1 | rfl
    · exact hr0.1.2 y h1
    · exact hz
  have hR := h.rows.set (j := 0) rfl hgr' hn
  refine ⟨⟨_, hcg⟩, hfg, ⟨h.own.kept hgr' (Own.ne_of_type h.own hr0.1.1 (by decide)), ?_, ⟨h.ws.1.kept hgr' (apFlip (h.ap 0 _ rfl)), h.ws.2⟩, h.ap⟩, hgr'⟩
  exact hR.mono (Nat.le_refl _) hgr'.size
end
/-- a tableau that can be read as long as only blocks below N change -/
def Stab (w : World) (N : Nat) (v : Value) (A : List (List Int)) (Bs : List Int) : Prop := ∀ W, Chg 0 N w W → TabArg W v A Bs
section
variable {w w' : World} {N M : Nat} {v va vb : Value} {vs : List Value} {A : List (List Int)} {Bs : List Int}
theorem Stab.step (h : Stab w N v A Bs) (hc : Chg 0 N w w') : Stab w' N v A Bs := fun W hW => h W (hc.trans hW)
theorem Stab.mono (h : Stab w N v A Bs) (hm : M ≤ N) : Stab w M v A Bs := fun W hW => h W (hW.mono (Nat.le_refl _) hm)
theorem Stab.arg (h : Stab w N v A Bs) : TabArg w v A Bs := h w (Chg.refl _ _ _)
theorem Two.stab (h : Two w N va vb vs A Bs) : Stab w N (.agg #[va, vb]) A Bs := fun W hW => (h.kept hW (Nat.le_refl _)).tab.arg
theorem rowsTail {g n cap : Nat} (h : Rows w (.slice (some ⟨g, 0, none⟩) (n + 1) cap) A) : Rows w (.slice (if cap = 1 then some ⟨g, 0, none⟩ else some ⟨g, 1, none⟩) n (cap - 1)) A.tail := by
  obtain ⟨us, ⟨A0, c, he, h1, h2, h3⟩, h4, h5⟩ := h
  simp only [Value.slice.injEq] at he
  obtain ⟨rfl, hn, rfl⟩ := he
  cases us with
  | nil => simp at hn
  | cons u0 us =>
    cases A with
    | nil => simp at h4
    | cons x A =>
      have hul : us.length = n := by simp at hn; omega
      have hcap : us.length + 1 ≤ cap := by simpa using h1
      refine ⟨us, ⟨if cap = 1 then some ⟨g, 0, none⟩ else some ⟨g, 1, none⟩, cap - 1, by rw [hul], by omega, by omega, fun k u hu => ?_⟩, by simpa using h4, fun k u zs hu hz => h5 (k + 1) u zs hu hz⟩
      have hk := (List.getElem?_eq_some_iff.1 hu).1
      rw [if_neg (by omega)]
      obtain ⟨ad, hA, hc⟩ := h3 (k + 1) u hu
      injection hA with hA
      subst hA
      refine ⟨_, rfl, ?_⟩
      rw [addr_addT] at hc
      have e : (⟨g, 1, none⟩ : Addr).add k = ⟨g, k + 1, none⟩ := by
        by_cases h0 : k = 0
        · subst h0; rfl
        · simp [Addr.add, h0, Nat.add_comm]
      rw [e]
      exact hc
theorem Two.stabTail {g n cap : Nat} (h : Two w N (.slice (some ⟨g, 0, none⟩) (n + 1) cap) vb vs A Bs) : Stab w N (.agg #[.slice (if cap = 1 then some ⟨g, 0, none⟩ else some ⟨g, 1, none⟩) n (cap - 1), vb]) A.tail Bs := fun W hW => by
  obtain ⟨a, b, he, h1, h2⟩ := (h.kept hW (Nat.le_refl _)).tab.arg
  have e := Value.agg.inj he
  have e1 : Value.slice (some ⟨g, 0, none⟩) (n + 1) cap = a := by have := congrArg (fun x : Array Value => x[0]?) e; simpa using this
  have e2 : vb = b := by have := congrArg (fun x : Array Value => x[1]?) e; simpa using this
  subst e1 e2
  exact ⟨_, _, rfl, rowsTail h1, h2⟩
end
/-- the state of a tableau that is spoilt -/
structure SpT (w0 w : World) (B p q : Nat) (va vb : Value) (vs : List Value) (A : List (List Int)) (Bs : List Int) : Prop where
  two : Two w (w0.heap.size + 1) va vb vs A Bs
  blk : Blk w q tTb #[va, vb]
  res : Blk w w0.heap.size tTb #[.slice none 0 0, .slice none 0 0]
  ge : w0.heap.size + 1 ≤ q
  gr : w0.grownBy w (some p)
  src : Src w B tSc p
/-- .. and at the end, where it is but read -/
structure SpS (w0 w : World) (B p q : Nat) (va vb : Value) : Prop where
  tab : ∃ A Bs, Stab w (w0.heap.size + 1) (.agg #[va, vb]) A Bs
  blk : Blk w q tTb #[va, vb]
  res : Blk w w0.heap.size tTb #[.slice none 0 0, .slice none 0 0]
  ge : w0.heap.size + 1 ≤ q
  gr : w0.grownBy w (some p)
  src : Src w B tSc p
section
variable {w0 w w5 w6 : World} {B p q : Nat} {va vb v1 r0 r1 : Value} {vs : List Value} {A : List (List Int)} {zs0 Bs : List Int} {z : Int}
theorem SpT.toS (h : SpT w0 w B p q va vb vs A Bs) : SpS w0 w B p q va vb := ⟨⟨A, Bs, h.two.stab⟩, h.blk, h.res, h.ge, h.gr, h.src⟩
theorem SpT.draw (h : SpT w0 w B p q va vb vs A Bs) (hp : p < w0.heap.size) (hg : w.grownBy w5 (some p)) (hs : Src w5 B tSc p) : SpT w0 w5 B p q va vb vs A Bs :=
  ⟨h.two.srcD hg (by omega), h.blk.srcD hg (by have := h.ge; omega), h.res.srcD hg (by omega), h.ge, gtrans h.gr hg, hs⟩
theorem SpT.below (h : SpT w0 w B p q va vb vs A Bs) (hp : p < w0.heap.size) (hb : Below w.heap.size w w5) : SpT w0 w5 B p q va vb vs A Bs := h.draw hp (gof hb) (h.src.below hb)
/-- the weights grow -/
theorem SpT.addB (h : SpT w0 w B p q va vb vs A Bs) (hp : p < w0.heap.size) (hz : In64 z) (hown : Own w6 (w0.heap.size + 1) tI v1 (ints Bs ++ [.int .i64 z])) (hgr : Grow w w6 vb v1) :
    Blk w6 q tTb #[va, vb] ∧ SpS w0 (w6.setCell ⟨q, 1, none⟩ v1) B p q va v1 := by
  have hnq : vb.ownBlock ≠ some q := h.two.ws.1.ne_blk h.blk (by decide)
  have hnr : vb.ownBlock ≠ some w0.heap.size := fun e => by have := h.two.ws.1.ge _ e; omega
  have hk := h.blk.grow hgr hnq
  have h6 := (h.two.addB hz hown hgr).storeAt hk (by decide) (by decide) 1 v1
  have hgo : ∀ b, vb.ownBlock = some b → w0.heap.size ≤ b := fun b hb => by have := h.two.ws.1.ge b hb; omega
  have g6 : w0.grownBy w6 (some p) := gthen h.gr hgr.1 hgo
  have s6 : Src w6 B tSc p := h.src.kept hgr.1 (fun e => by have := h.two.ws.1.ge _ e; omega) (fun b hb => by have := hgo b hb; have := h.src.ge; omega)
  refine ⟨hk, ⟨_, _, h6.stab⟩, by simpa using hk.set_ 1 v1, (h.res.grow hgr hnr).far (p := ⟨q, 1, none⟩) (by have := h.ge; simp; omega) v1, h.ge, gthen g6 (gset w6 q 1 v1) (by rintro b ⟨⟩; have := h.ge; omega), s6.kept (gset w6 q 1 v1) (by intro e; injection e with e; have := h.ge; omega) (by rintro b ⟨⟩; have := h.ge; have := h.src.ge; omega)⟩
/-- row 0 grows -/
theorem SpT.row0 {g n cap : Nat} (h : SpT w0 w B p q (.slice (some ⟨g, 0, none⟩) n cap) vb (r0 :: vs) (zs0 :: A) Bs) (hp : p < w0.heap.size) (hz : In64 z) (hown : Own w6 (w0.heap.size + 1) tI r1 (ints zs0 ++ [.int .i64 z])) (hgr : Grow w w6 r0 r1) :
    (∃ u, w6.cell? ⟨g, 0, none⟩ = some u) ∧ w6.frozen? ⟨g, 0, none⟩ = false ∧ Blk w6 q tTb #[.slice (some ⟨g, 0, none⟩) n cap, vb] ∧ SpS w0 (w6.setCell ⟨g, 0, none⟩ r1) B p q (.slice (some ⟨g, 0, none⟩) n cap) vb := by
  have hr0 := h.two.rows.2.1 0 r0 zs0 rfl rfl
  obtain ⟨a1, a2, a3, a4⟩ := h.two.row0 hz hown hgr
  have hnq : r0.ownBlock ≠ some q := hr0.1.1.ne_blk h.blk (by decide)
  have hnr : r0.ownBlock ≠ some w0.heap.size := fun e => by have := hr0.1.1.ge _ e; omega
  have hk := h.blk.grow hgr hnq
  have hge : w0.heap.size + 1 ≤ g := h.two.own.ge g rfl
  have hgq : g ≠ q := fun e => (h.two.own.ne_blk h.blk (by decide)) (by rw [e]; rfl)
  have hgo : ∀ b, r0.ownBlock = some b → w0.heap.size ≤ b := fun b hb => by have := hr0.1.1.ge b hb; omega
  have g6 : w0.grownBy w6 (some p) := gthen h.gr hgr.1 hgo
  have s6 : Src w6 B tSc p := h.src.kept hgr.1 (fun e => by have := hr0.1.1.ge _ e; omega) (fun b hb => by have := hgo b hb; have := h.src.ge; omega)
  exact ⟨a1, a2, hk, ⟨_, _, a3.stab⟩, hk.far (p := ⟨g, 0, none⟩) (by simpa using fun e => hgq e.symm) r1, (h.res.grow hgr hnr).far (p := ⟨g, 0, none⟩) (by simp; omega) r1, h.ge, gthen g6 a4 (by rintro b ⟨⟩; omega), s6.kept a4 (by intro e; injection e with e; omega) (by rintro b ⟨⟩; have := h.src.ge; omega)⟩
/-- a number of row 0 is stored -/
theorem SpT.cell0 {gr nr cr : Nat} (h : SpT w0 w B p q va vb (.slice (some ⟨gr, 0, none⟩) nr cr :: vs) (zs0 :: A) Bs) (hp : p < w0.heap.size) (hz : In64 z) (hl : 0 < zs0.length) :
    (∃ u, w.cell? ⟨gr, 0, none⟩ = some u) ∧ w.frozen? ⟨gr, 0, none⟩ = false ∧ SpS w0 (w.setCell ⟨gr, 0, none⟩ (.int .i64 z)) B p q va vb := by
  have hr0 := h.two.rows.2.1 0 _ zs0 rfl rfl
  obtain ⟨a1, a2, a3, a4⟩ := h.two.cell0 hz hl
  have hge : w0.heap.size + 1 ≤ gr := hr0.1.1.ge gr rfl
  have hgq : gr ≠ q := fun e => (hr0.1.1.ne_blk h.blk (by decide)) (by rw [e]; rfl)
  exact ⟨a1, a2, ⟨_, _, a3.stab⟩, h.blk.far (p := ⟨gr, 0, none⟩) (by simpa using fun e => hgq e.symm) _, h.res.far (p := ⟨gr, 0, none⟩) (by simp; omega) _, h.ge, gthen h.gr a4 (by rintro b ⟨⟩; omega), h.src.kept a4 (by intro e; injection e with e; omega) (by rintro b ⟨⟩; have := h.src.ge; omega)⟩
/-- nothing is left -/
theorem SpT.nil0 (h : SpT w0 w B p q va vb vs A Bs) (hp : p < w0.heap.size) : SpS w0 ((w.setCell ⟨q, 0, none⟩ (.slice none 0 0)).setCell ⟨q, 1, none⟩ (.slice none 0 0)) B p q (.slice none 0 0) (.slice none 0 0) := by
  have hge := h.ge
  have hsg := h.src.ge
  have r1 := h.res.far (p := ⟨q, 0, none⟩) (by simp; omega) (.slice none 0 0)
  have r2 := r1.far (p := ⟨q, 1, none⟩) (by simp; omega) (.slice none 0 0)
  have g1 := gthen h.gr (gset w q 0 (.slice none 0 0)) (by rintro b ⟨⟩; omega)
  have g2 := gthen g1 (gset _ q 1 (.slice none 0 0)) (by rintro b ⟨⟩; omega)
  have s1 := h.src.kept (gset w q 0 (.slice none 0 0)) (by intro e; injection e with e; omega) (by rintro b ⟨⟩; omega)
  have s2 := s1.kept (gset _ q 1 (.slice none 0 0)) (by intro e; injection e with e; omega) (by rintro b ⟨⟩; omega)
  exact ⟨⟨_, _, (Two.nil _ _).stab⟩, by simpa using (h.blk.set_ 0 (.slice none 0 0)).set_ 1 (.slice none 0 0), r2, hge, g2, s2⟩
/-- the first row is cut off -/
theorem SpT.tail {g n cap : Nat} (h : SpT w0 w B p q (.slice (some ⟨g, 0, none⟩) (n + 1) cap) vb vs A Bs) (hp : p < w0.heap.size) :
    SpS w0 (w.setCell ⟨q, 0, none⟩ (.slice (if cap = 1 then some ⟨g, 0, none⟩ else some ⟨g, 1, none⟩) n (cap - 1))) B p q (.slice (if cap = 1 then some ⟨g, 0, none⟩ else some ⟨g, 1, none⟩) n (cap - 1)) vb := by
  have hge := h.ge
  have hsg := h.src.ge
  have h6 := h.two.storeAt h.blk (by decide) (by decide) 0 (.slice (if cap = 1 then some ⟨g, 0, none⟩ else some ⟨g, 1, none⟩) n (cap - 1))
  exact ⟨⟨_, _, h6.stabTail⟩, by simpa using h.blk.set_ 0 (.slice (if cap = 1 then some ⟨g, 0, none⟩ else some ⟨g, 1, none⟩) n (cap - 1)), h.res.far (p := ⟨q, 0, none⟩) (by simp; omega) _, hge, gthen h.gr (gset w q 0 _) (by rintro b ⟨⟩; omega), h.src.kept (gset w q 0 _) (by intro e; injection e with e; omega) (by rintro b ⟨⟩; omega)⟩
theorem SpT.rowCell {g n cap : Nat} (h : SpT w0 w B p q (.slice (some ⟨g, 0, none⟩) n cap) vb (r0 :: vs) A Bs) : w.cell? ⟨g, 0, none⟩ = some r0 := by
  obtain ⟨A0, c0, he, h1, h2, h3⟩ := h.two.own.cells
  simp only [Value.slice.injEq] at he
  obtain ⟨rfl, -, -⟩ := he
  obtain ⟨ad, hA, hc⟩ := h3 0 _ rfl
  injection hA with hA
  subst hA
  exact hc
/-- the end: the result is stored -/
theorem SpS.fin (h : SpS w0 w B p q va vb) (hp : p < w0.heap.size) :
    (∃ A Bs, Stab ((w.setCell ⟨w0.heap.size, 0, none⟩ va).setCell ⟨w0.heap.size, 1, none⟩ vb) w0.heap.size (.agg #[va, vb]) A Bs) ∧ w0.grownBy ((w.setCell ⟨w0.heap.size, 0, none⟩ va).setCell ⟨w0.heap.size, 1, none⟩ vb) (some p) ∧ Src ((w.setCell ⟨w0.heap.size, 0, none⟩ va).setCell ⟨w0.heap.size, 1, none⟩ vb) B tSc p := by
  obtain ⟨A, Bs, h1⟩ := h.tab
  have c2 := ((Chg.refl 0 (w0.heap.size + 1) w).setCell (p := ⟨w0.heap.size, 0, none⟩) (Nat.zero_le _) (by simp) va).setCell (p := ⟨w0.heap.size, 1, none⟩) (Nat.zero_le _) (by simp) vb
  have g1 := gthen h.gr (gset w w0.heap.size 0 va) (by rintro b ⟨⟩; omega)
  have g2 := gthen g1 (gset _ w0.heap.size 1 vb) (by rintro b ⟨⟩; omega)
  have s1 := h.src.kept (gset w w0.heap.size 0 va) (by intro e; injection e with e; omega) (by rintro b ⟨⟩; have := h.src.ge; omega)
  have s2 := s1.kept (gset _ w0.heap.size 1 vb) (by intro e; injection e with e; omega) (by rintro b ⟨⟩; have := h.src.ge; omega)
  exact ⟨⟨A, Bs, (h1.step c2).mono (Nat.le_succ _)⟩, g2, s2⟩
end
end Go.Proofs.YtdjhfeaimmpmhaaGreat

set_option maxRecDepth 100000
set_option linter.unusedVariables false
set_option linter.unusedSimpArgs false
namespace Go.Proofs.YtdjhfeaimmpmhaaGreat
open Go.RowKit

/-- a drawn tableau, opened -/
theorem DT.parts {w : World} {C n0 : Nat} {v : Value} (h : DT w C v (n0 + 1)) : ∃ ga ca gb cb gr cr vs zs0 A Bs, v = .agg #[.slice (some ⟨ga, 0, none⟩) (n0 + 1) ca, .slice (some ⟨gb, 0, none⟩) (n0 + 1) cb] ∧
    Two w C (.slice (some ⟨ga, 0, none⟩) (n0 + 1) ca) (.slice (some ⟨gb, 0, none⟩) (n0 + 1) cb) (.slice (some ⟨gr, 0, none⟩) (n0 + 1) cr :: vs) (zs0 :: A) Bs ∧ zs0.length = n0 + 1 ∧ Bs.length = n0 + 1 := by
  obtain ⟨A, Bs, ⟨va, vb, vs, rfl, h1, h2, h3, h4, h5⟩, hs, hb⟩ := h
  have hl := h3.1
  rw [hs.1] at hl
  cases vs with
  | nil => simp at hl
  | cons r0 vs =>
    cases A with
    | nil => have := hs.1; simp at this
    | cons zs0 A =>
      have hz0 := hs.2 zs0 (by simp)
      obtain ⟨gb, cb, rfl⟩ := own_openD h4.1 hb (by omega)
      obtain ⟨gr, cr, rfl⟩ := own_openD (h3.2.1 0 r0 zs0 rfl rfl).1 hz0 (by omega)
      rcases h1.cases with ⟨-, he⟩ | ⟨ga, ca, cur, he, -⟩
      · cases he
      · rw [hl] at he
        subst he
        exact ⟨ga, ca, gb, cb, gr, cr, vs, zs0, A, Bs, rfl, ⟨h1, h3, h4.1, h5⟩, hz0.1, hb.1⟩
theorem SpT.init {w w5 : World} {B p : Nat} {va vb : Value} {vs : List Value} {A : List (List Int)} {Bs : List Int} (h : Two w5 (w.heap.size + 1) va vb vs A Bs) (hk : Blk w5 w.heap.size tTb #[.slice none 0 0, .slice none 0 0]) (hg : w.grownBy w5 (some p)) (hs : Src w5 B tSc p) :
    SpT w (w5.alloc (.cells #[va, vb] tTb)) B p w5.heap.size va vb vs A Bs := by
  have hb := below1 w5 (.cells #[va, vb] tTb)
  have hlt := hk.lt
  exact ⟨h.step hb, Blk.new _ _ _, hk.below hb hlt, by omega, gtrans hg (gof hb), hs.below hb⟩
set_option maxHeartbeats 32000000 in
theorem s_l09Spoil (w : World) (B p most : Nat) (h : Src w B tSc p) (hm1 : 1 ≤ most) (hm8 : most ≤ 8) :
    Calls Tryz.prog 99 #[at0 p, .int .i64 (most : Nat)] w fun e w' => ∃ v, e = .returned v ∧ (∃ A Bs, Stab w' w.heap.size v A Bs) ∧ w.grownBy w' (some p) ∧ Src w' B tSc p := by
  have hpl := h.lt
  have HBp := Lib.hid h.ge
  obtain ⟨W, hW⟩ : ∃ W, W = w.alloc (.cells #[.slice none 0 0, .slice none 0 0] tTb) := ⟨_, rfl⟩
  have HSW := Lib.hid (show W.heap.size = w.heap.size + 1 from by rw [hW]; simp)
  have HKR := Lib.hid (show Blk W w.heap.size tTb #[.slice none 0 0, .slice none 0 0] from by rw [hW]; exact Blk.new _ _ _)
  have HG0 := Lib.hid (show w.grownBy W (some p) from gof (by rw [hW]; exact below1 w _))
  have HS0 := Lib.hid (show Src W B tSc p from h.below (by rw [hW]; exact below1 w _))
  clear h
  go_enter Tryz.func99, Tryz.ntmps99
  go_upto_region 1 with fail
  rw [← hW]
  clear hW
  go_upto_region 2 with (go_at_call 153; go_loud (refine (s_l09Draw W B p most HS0.out hm1 hm8).mono ?_; rintro e w5 ⟨v5, n, rfl, hd, hn1, hn8, hg, hs⟩; obtain ⟨n0, rfl⟩ : ∃ n0, n = n0 + 1 := ⟨n - 1, by omega⟩; obtain ⟨ga, ca, gb, cb, gr, cr, vs, zs0, A, Bs, rfl, ht, hz0, hbl⟩ := hd.parts; rw [HSW.out] at ht; have HT5 := Lib.hid (SpT.init ht (HKR.out.srcD hg (by omega)) (gtrans HG0.out hg) hs); have HZ0 := Lib.hid hz0; have HBL := Lib.hid hbl; clear ht hz0 hbl hd hg hs))
  clear HKR HG0 HS0
  obtain ⟨q, hq⟩ : ∃ q, q = w5.heap.size := ⟨_, rfl⟩
  obtain ⟨W6, hW6⟩ : ∃ W6, W6 = w5.alloc (.cells #[.slice (some ⟨ga, 0, none⟩) (n0 + 1) ca, .slice (some ⟨gb, 0, none⟩) (n0 + 1) cb] tTb) := ⟨_, rfl⟩
  rw [← hq, ← hW6] at HT5
  rw [← hW6, ← hq]
  clear hq hW6
  go_upto_region 3 with (go_at_call 50; go_loud (refine (s_l01Next _ B p 40 HT5.out.src (by omega) (by omega)).mono ?_; rintro e w6 ⟨x, rfl, x0, x1, hg, hs⟩; have HT := Lib.hid (HT5.out.draw hpl hg hs); clear hg hs))
  clear HT5
  have hqa : w6.cell? ⟨q, 0, none⟩ = some (.slice (some ⟨ga, 0, none⟩) (n0 + 1) ca) := HT.out.blk.cell 0
  have hqb : w6.cell? ⟨q, 1, none⟩ = some (.slice (some ⟨gb, 0, none⟩) (n0 + 1) cb) := HT.out.blk.cell 1
  have hfa : w6.frozen? ⟨q, 0, none⟩ = false := HT.out.blk.frozen 0
  have hfb : w6.frozen? ⟨q, 1, none⟩ = false := HT.out.blk.frozen 1
  have hqs : w.heap.size + 1 ≤ w6.heap.size := by have h1 := HT.out.ge; have h2 := HT.out.blk.lt; omega
  have HQS := Lib.hid hqs
  clear hqs
  by_cases hx0 : x = 0
  · subst hx0
    go_upto_region 13 with (at_builtin; go_loud (refine wpList_app1 T_int HT.out.two.ws.1 (by rw [ints_len, HBL.out]; omega) HQS.out (by rfl) rfl (by rfl) (by rfl) (by rfl) ?_; intro v7 w7 hown7 hgr7; have hop7 := hown7.cells.open_; (obtain ⟨A7, c7, hv7, -, -⟩ := hop7); have he7 : v7 = .slice A7 (n0 + 1 + 1) c7 := (by rw [List.length_append, ints_len, HBL.out] at hv7; exact hv7); clear hv7; subst he7; have hsp := HT.out.addB hpl (by unfold In64; omega) hown7 hgr7; have HE := Lib.hid hsp.2; have r0 : w7.cell? ⟨q, 1, none⟩ = some (.slice (some ⟨gb, 0, none⟩) (n0 + 1) cb) := hsp.1.cell 1; have r1 : w7.frozen? ⟨q, 1, none⟩ = false := hsp.1.frozen 1; clear hown7 hgr7 hsp))
    clear hqa hqb hfa hfb r0 r1
    obtain ⟨wz, hwz⟩ : ∃ wz, wz = w7.setCell ⟨q, 1, none⟩ (.slice A7 (n0 + 1 + 1) c7) := ⟨_, rfl⟩
    rw [← hwz] at HE ⊢
    clear hwz
    have HDz := HE.out
    have q0 : wz.cell? ⟨q, 0, none⟩ = some (.slice (some ⟨ga, 0, none⟩) (n0 + 1) ca) := HDz.blk.cell 0
    have q1 : wz.cell? ⟨q, 1, none⟩ = some (.slice A7 (n0 + 1 + 1) c7) := HDz.blk.cell 1
    have p0 : wz.cell? ⟨w.heap.size, 0, none⟩ = some (.slice none 0 0) := HDz.res.cell 0
    have p1 : wz.cell? ⟨w.heap.size, 1, none⟩ = some (.slice none 0 0) := HDz.res.cell 1
    have f0 : wz.frozen? ⟨w.heap.size, 0, none⟩ = false := HDz.res.frozen 0
    have f1 : wz.frozen? ⟨w.heap.size, 1, none⟩ = false := HDz.res.frozen 1
    have HBLK := Lib.hid (show Blk ((wz.setCell ⟨w.heap.size, 0, none⟩ (.slice (some ⟨ga, 0, none⟩) (n0 + 1) ca)).setCell ⟨w.heap.size, 1, none⟩ (.slice A7 (n0 + 1 + 1) c7)) w.heap.size tTb #[.slice (some ⟨ga, 0, none⟩) (n0 + 1) ca, .slice A7 (n0 + 1 + 1) c7] from by have h := (HDz.res.set_ 0 (.slice (some ⟨ga, 0, none⟩) (n0 + 1) ca)).set_ 1 (.slice A7 (n0 + 1 + 1) c7); simpa using h)
    obtain ⟨hfin, hgf, hsf⟩ := HDz.fin hpl
    have HF := Lib.hid hfin
    have HGF := Lib.hid hgf
    have HSF := Lib.hid hsf
    clear hfin hgf hsf HDz
    go_wp2_with fail
    have g0 := HBLK.out.cell 0
    have g1 := HBLK.out.cell 1
    simp only [List.getElem?_toArray, List.getElem?_cons_zero, List.getElem?_cons_succ] at g0 g1
    exact bodyPost_ret (v := .agg #[.slice (some ⟨ga, 0, none⟩) (n0 + 1) ca, .slice A7 (n0 + 1 + 1) c7]) (by simp [results, Tryz.results99, go_sem, g0, g1]) rfl ⟨_, rfl, HF.out, HGF.out, HSF.out⟩

  · by_cases hx1 : x = 1
    · subst hx1
      have hca : w6.cell? ⟨ga, 0, none⟩ = some (.slice (some ⟨gr, 0, none⟩) (n0 + 1) cr) := HT.out.rowCell
      have hca2 : ∀ o, (w6.alloc o).cell? ⟨ga, 0, none⟩ = some (.slice (some ⟨gr, 0, none⟩) (n0 + 1) cr) := fun o => (HT.out.below hpl (below1 w6 o)).rowCell
      have hqa2 : ∀ o, (w6.alloc o).cell? ⟨q, 0, none⟩ = some (.slice (some ⟨ga, 0, none⟩) (n0 + 1) ca) := fun o => (HT.out.below hpl (below1 w6 o)).blk.cell 0
      have hbd : Below w6.heap.size w6 w6.drew := (Below.refl _ _).drew
      have HTd := Lib.hid (HT.out.below hpl hbd)
      go_upto_region 6 with fail
      go_region_law (go_loud (refine step_app1 T_int (B := w.heap.size + 1) (W := w6.drew) (v := .slice (some ⟨gr, 0, none⟩) (n0 + 1) cr) (vs := ints zs0) (u := .int .i64 1) (HTd.out.two.rows.2.1 0 _ zs0 rfl rfl).1.1 (by rw [ints_len, HZ0.out]; omega) HQS.out (by rfl) rfl (by rfl) (by rfl) (by rfl) ?_; intro v7 w7 hown7 hgr7; have hop7 := hown7.cells.open_; (obtain ⟨A7, c7, hv7, -, -⟩ := hop7); have he7 : v7 = .slice A7 (n0 + 1 + 1) c7 := (by rw [List.length_append, ints_len, HZ0.out] at hv7; exact hv7); clear hv7; subst he7; obtain ⟨⟨u7, r0⟩, r1, r2, hsp⟩ := HTd.out.row0 hpl (by unfold In64; omega) hown7 hgr7; have HE := Lib.hid hsp; have r3 : w7.cell? ⟨q, 0, none⟩ = some (.slice (some ⟨ga, 0, none⟩) (n0 + 1) ca) := r2.cell 0; clear hown7 hgr7 hsp r2))
      all_goals
        go_upto_region 13 with fail
        clear hqa hqb hfa hfb hca hca2 hqa2 r0 r1 r3
        obtain ⟨wz, hwz⟩ : ∃ wz, wz = w7.setCell ⟨ga, 0, none⟩ (.slice A7 (n0 + 1 + 1) c7) := ⟨_, rfl⟩
        rw [← hwz] at HE ⊢
        clear hwz
        have HDz := HE.out
        have q0 : wz.cell? ⟨q, 0, none⟩ = some (.slice (some ⟨ga, 0, none⟩) (n0 + 1) ca) := HDz.blk.cell 0
        have q1 : wz.cell? ⟨q, 1, none⟩ = some (.slice (some ⟨gb, 0, none⟩) (n0 + 1) cb) := HDz.blk.cell 1
        have p0 : wz.cell? ⟨w.heap.size, 0, none⟩ = some (.slice none 0 0) := HDz.res.cell 0
        have p1 : wz.cell? ⟨w.heap.size, 1, none⟩ = some (.slice none 0 0) := HDz.res.cell 1
        have f0 : wz.frozen? ⟨w.heap.size, 0, none⟩ = false := HDz.res.frozen 0
        have f1 : wz.frozen? ⟨w.heap.size, 1, none⟩ = false := HDz.res.frozen 1
        have HBLK := Lib.hid (show Blk ((wz.setCell ⟨w.heap.size, 0, none⟩ (.slice (some ⟨ga, 0, none⟩) (n0 + 1) ca)).setCell ⟨w.heap.size, 1, none⟩ (.slice (some ⟨gb, 0, none⟩) (n0 + 1) cb)) w.heap.size tTb #[.slice (some ⟨ga, 0, none⟩) (n0 + 1) ca, .slice (some ⟨gb, 0, none⟩) (n0 + 1) cb] from by have h := (HDz.res.set_ 0 (.slice (some ⟨ga, 0, none⟩) (n0 + 1) ca)).set_ 1 (.slice (some ⟨gb, 0, none⟩) (n0 + 1) cb); simpa using h)
        obtain ⟨hfin, hgf, hsf⟩ := HDz.fin hpl
        have HF := Lib.hid hfin
        have HGF := Lib.hid hgf
        have HSF := Lib.hid hsf
        clear hfin hgf hsf HDz
        go_wp2_with fail
        have g0 := HBLK.out.cell 0
        have g1 := HBLK.out.cell 1
        simp only [List.getElem?_toArray, List.getElem?_cons_zero, List.getElem?_cons_succ] at g0 g1
        exact bodyPost_ret (v := .agg #[.slice (some ⟨ga, 0, none⟩) (n0 + 1) ca, .slice (some ⟨gb, 0, none⟩) (n0 + 1) cb]) (by simp [results, Tryz.results99, go_sem, g0, g1]) rfl ⟨_, rfl, HF.out, HGF.out, HSF.out⟩

    · by_cases hx2 : x = 2
      · subst hx2
        have hca : w6.cell? ⟨ga, 0, none⟩ = some (.slice (some ⟨gr, 0, none⟩) (n0 + 1) cr) := HT.out.rowCell
        have hca2 : ∀ o, (w6.alloc o).cell? ⟨ga, 0, none⟩ = some (.slice (some ⟨gr, 0, none⟩) (n0 + 1) cr) := fun o => (HT.out.below hpl (below1 w6 o)).rowCell
        have hqa2 : ∀ o, (w6.alloc o).cell? ⟨q, 0, none⟩ = some (.slice (some ⟨ga, 0, none⟩) (n0 + 1) ca) := fun o => (HT.out.below hpl (below1 w6 o)).blk.cell 0
        have hbd : Below w6.heap.size w6 (w6.drew.alloc (.cells #[.int .i64 (-1), .int .i64 10007] tI)) := ((Below.refl _ _).drew).alloc (Nat.le_refl _) _
        have HTd := Lib.hid (HT.out.below hpl hbd)
        have HLI := Lib.hid (show ∀ X, (w6.drew.alloc (.cells #[.int .i64 (-1), .int .i64 10007] tI)).grownBy X (some p) → Ints X (.slice (some ⟨w6.heap.size, 0, none⟩) 2 2) [-1, 10007] from lit_keep w6.drew p [-1, 10007] (by intro z hz; simp at hz; unfold In64; omega) (by simp) (by have h1 := HQS.out; show p < w6.heap.size; omega))
        go_upto_region 8 with fail
        go_region_law (go_simp; go_at_call 52; (with_reducible refine (s_l01Pick _ B p _ [-1, 10007] ?_ ?_ ?_ ?_).mono ?_); (exact HTd.out.src); (exact HLI.out); (simp); (simp); go_loud (rintro e w7 ⟨z, rfl, hzm, hg, hs⟩; have hz64 : In64 z := (by simp at hzm; unfold In64; omega); have HT7 := Lib.hid (HTd.out.draw hpl hg hs); obtain ⟨⟨u7, r0⟩, r1, hsp⟩ := HT7.out.cell0 hpl hz64 (by rw [HZ0.out]; omega); have HE := Lib.hid hsp; have r3 : w7.cell? ⟨q, 0, none⟩ = some (.slice (some ⟨ga, 0, none⟩) (n0 + 1) ca) := HT7.out.blk.cell 0; have r4 : w7.cell? ⟨ga, 0, none⟩ = some (.slice (some ⟨gr, 0, none⟩) (n0 + 1) cr) := HT7.out.rowCell; clear hg hs hsp hzm hz64))
        all_goals
          go_upto_region 13 with fail
          clear hqa hqb hfa hfb hca hca2 hqa2 r0 r1 r3 r4
          obtain ⟨wz, hwz⟩ : ∃ wz, wz = w7.setCell ⟨gr, 0, none⟩ (.int .i64 z) := ⟨_, rfl⟩
          rw [← hwz] at HE ⊢
          clear hwz
          have HDz := HE.out
          have q0 : wz.cell? ⟨q, 0, none⟩ = some (.slice (some ⟨ga, 0, none⟩) (n0 + 1) ca) := HDz.blk.cell 0
          have q1 : wz.cell? ⟨q, 1, none⟩ = some (.slice (some ⟨gb, 0, none⟩) (n0 + 1) cb) := HDz.blk.cell 1
          have p0 : wz.cell? ⟨w.heap.size, 0, none⟩ = some (.slice none 0 0) := HDz.res.cell 0
          have p1 : wz.cell? ⟨w.heap.size, 1, none⟩ = some (.slice none 0 0) := HDz.res.cell 1
          have f0 : wz.frozen? ⟨w.heap.size, 0, none⟩ = false := HDz.res.frozen 0
          have f1 : wz.frozen? ⟨w.heap.size, 1, none⟩ = false := HDz.res.frozen 1
          have HBLK := Lib.hid (show Blk ((wz.setCell ⟨w.heap.size, 0, none⟩ (.slice (some ⟨ga, 0, none⟩) (n0 + 1) ca)).setCell ⟨w.heap.size, 1, none⟩ (.slice (some ⟨gb, 0, none⟩) (n0 + 1) cb)) w.heap.size tTb #[.slice (some ⟨ga, 0, none⟩) (n0 + 1) ca, .slice (some ⟨gb, 0, none⟩) (n0 + 1) cb] from by have h := (HDz.res.set_ 0 (.slice (some ⟨ga, 0, none⟩) (n0 + 1) ca)).set_ 1 (.slice (some ⟨gb, 0, none⟩) (n0 + 1) cb); simpa using h)
          obtain ⟨hfin, hgf, hsf⟩ := HDz.fin hpl
          have HF := Lib.hid hfin
          have HGF := Lib.hid hgf
          have HSF := Lib.hid hsf
          clear hfin hgf hsf HDz
          go_wp2_with fail
          have g0 := HBLK.out.cell 0
          have g1 := HBLK.out.cell 1
          simp only [List.getElem?_toArray, List.getElem?_cons_zero, List.getElem?_cons_succ] at g0 g1
          exact bodyPost_ret (v := .agg #[.slice (some ⟨ga, 0, none⟩) (n0 + 1) ca, .slice (some ⟨gb, 0, none⟩) (n0 + 1) cb]) (by simp [results, Tryz.results99, go_sem, g0, g1]) rfl ⟨_, rfl, HF.out, HGF.out, HSF.out⟩

      · by_cases hx3 : x = 3
        · subst hx3
          go_upto_region 13 with fail
          have HE := Lib.hid (HT.out.nil0 hpl)
          clear hqa hqb hfa hfb
          obtain ⟨wz, hwz⟩ : ∃ wz, wz = (w6.setCell ⟨q, 0, none⟩ (.slice none 0 0)).setCell ⟨q, 1, none⟩ (.slice none 0 0) := ⟨_, rfl⟩
          rw [← hwz] at HE ⊢
          clear hwz
          have HDz := HE.out
          have q0 : wz.cell? ⟨q, 0, none⟩ = some (.slice none 0 0) := HDz.blk.cell 0
          have q1 : wz.cell? ⟨q, 1, none⟩ = some (.slice none 0 0) := HDz.blk.cell 1
          have p0 : wz.cell? ⟨w.heap.size, 0, none⟩ = some (.slice none 0 0) := HDz.res.cell 0
          have p1 : wz.cell? ⟨w.heap.size, 1, none⟩ = some (.slice none 0 0) := HDz.res.cell 1
          have f0 : wz.frozen? ⟨w.heap.size, 0, none⟩ = false := HDz.res.frozen 0
          have f1 : wz.frozen? ⟨w.heap.size, 1, none⟩ = false := HDz.res.frozen 1
          have HBLK := Lib.hid (show Blk ((wz.setCell ⟨w.heap.size, 0, none⟩ (.slice none 0 0)).setCell ⟨w.heap.size, 1, none⟩ (.slice none 0 0)) w.heap.size tTb #[.slice none 0 0, .slice none 0 0] from by have h := (HDz.res.set_ 0 (.slice none 0 0)).set_ 1 (.slice none 0 0); simpa using h)
          obtain ⟨hfin, hgf, hsf⟩ := HDz.fin hpl
          have HF := Lib.hid hfin
          have HGF := Lib.hid hgf
          have HSF := Lib.hid hsf
          clear hfin hgf hsf HDz
          go_wp2_with fail
          have g0 := HBLK.out.cell 0
          have g1 := HBLK.out.cell 1
          simp only [List.getElem?_toArray, List.getElem?_cons_zero, List.getElem?_cons_succ] at g0 g1
          exact bodyPost_ret (v := .agg #[.slice none 0 0, .slice none 0 0]) (by simp [results, Tryz.results99, go_sem, g0, g1]) rfl ⟨_, rfl, HF.out, HGF.out, HSF.out⟩

        · by_cases hx4 : x = 4
          · subst hx4
            go_upto_region 13 with fail
            have HE := Lib.hid (HT.out.tail hpl)
            clear hqa hqb hfa hfb
            obtain ⟨A2, hA2⟩ : ∃ A2 : Option Addr, A2 = if ca = 1 then some ⟨ga, 0, none⟩ else some ⟨ga, 1, none⟩ := ⟨_, rfl⟩
            rw [← hA2] at HE ⊢
            clear hA2
            obtain ⟨wz, hwz⟩ : ∃ wz, wz = w6.setCell ⟨q, 0, none⟩ (.slice A2 n0 (ca - 1)) := ⟨_, rfl⟩
            rw [← hwz] at HE ⊢
            clear hwz
            have HDz := HE.out
            have q0 : wz.cell? ⟨q, 0, none⟩ = some (.slice A2 n0 (ca - 1)) := HDz.blk.cell 0
            have q1 : wz.cell? ⟨q, 1, none⟩ = some (.slice (some ⟨gb, 0, none⟩) (n0 + 1) cb) := HDz.blk.cell 1
            have p0 : wz.cell? ⟨w.heap.size, 0, none⟩ = some (.slice none 0 0) := HDz.res.cell 0
            have p1 : wz.cell? ⟨w.heap.size, 1, none⟩ = some (.slice none 0 0) := HDz.res.cell 1
            have f0 : wz.frozen? ⟨w.heap.size, 0, none⟩ = false := HDz.res.frozen 0
            have f1 : wz.frozen? ⟨w.heap.size, 1, none⟩ = false := HDz.res.frozen 1
            have HBLK := Lib.hid (show Blk ((wz.setCell ⟨w.heap.size, 0, none⟩ (.slice A2 n0 (ca - 1))).setCell ⟨w.heap.size, 1, none⟩ (.slice (some ⟨gb, 0, none⟩) (n0 + 1) cb)) w.heap.size tTb #[.slice A2 n0 (ca - 1), .slice (some ⟨gb, 0, none⟩) (n0 + 1) cb] from by have h := (HDz.res.set_ 0 (.slice A2 n0 (ca - 1))).set_ 1 (.slice (some ⟨gb, 0, none⟩) (n0 + 1) cb); simpa using h)
            obtain ⟨hfin, hgf, hsf⟩ := HDz.fin hpl
            have HF := Lib.hid hfin
            have HGF := Lib.hid hgf
            have HSF := Lib.hid hsf
            clear hfin hgf hsf HDz
            go_wp2_with fail
            have g0 := HBLK.out.cell 0
            have g1 := HBLK.out.cell 1
            simp only [List.getElem?_toArray, List.getElem?_cons_zero, List.getElem?_cons_succ] at g0 g1
            exact bodyPost_ret (v := .agg #[.slice A2 n0 (ca - 1), .slice (some ⟨gb, 0, none⟩) (n0 + 1) cb]) (by simp [results, Tryz.results99, go_sem, g0, g1]) rfl ⟨_, rfl, HF.out, HGF.out, HSF.out⟩

          · go_upto_region 13 with fail
            have HE := Lib.hid HT.out.toS
            clear hqa hqb hfa hfb
            obtain ⟨wz, hwz⟩ : ∃ wz, wz = w6 := ⟨_, rfl⟩
            rw [← hwz] at HE ⊢
            clear hwz
            have HDz := HE.out
            have q0 : wz.cell? ⟨q, 0, none⟩ = some (.slice (some ⟨ga, 0, none⟩) (n0 + 1) ca) := HDz.blk.cell 0
            have q1 : wz.cell? ⟨q, 1, none⟩ = some (.slice (some ⟨gb, 0, none⟩) (n0 + 1) cb) := HDz.blk.cell 1
            have p0 : wz.cell? ⟨w.heap.size, 0, none⟩ = some (.slice none 0 0) := HDz.res.cell 0
            have p1 : wz.cell? ⟨w.heap.size, 1, none⟩ = some (.slice none 0 0) := HDz.res.cell 1
            have f0 : wz.frozen? ⟨w.heap.size, 0, none⟩ = false := HDz.res.frozen 0
            have f1 : wz.frozen? ⟨w.heap.size, 1, none⟩ = false := HDz.res.frozen 1
            have HBLK := Lib.hid (show Blk ((wz.setCell ⟨w.heap.size, 0, none⟩ (.slice (some ⟨ga, 0, none⟩) (n0 + 1) ca)).setCell ⟨w.heap.size, 1, none⟩ (.slice (some ⟨gb, 0, none⟩) (n0 + 1) cb)) w.heap.size tTb #[.slice (some ⟨ga, 0, none⟩) (n0 + 1) ca, .slice (some ⟨gb, 0, none⟩) (n0 + 1) cb] from by have h := (HDz.res.set_ 0 (.slice (some ⟨ga, 0, none⟩) (n0 + 1) ca)).set_ 1 (.slice (some ⟨gb, 0, none⟩) (n0 + 1) cb); simpa using h)
            obtain ⟨hfin, hgf, hsf⟩ := HDz.fin hpl
            have HF := Lib.hid hfin
            have HGF := Lib.hid hgf
            have HSF := Lib.hid hsf
            clear hfin hgf hsf HDz
            go_wp2_with fail
            have g0 := HBLK.out.cell 0
            have g1 := HBLK.out.cell 1
            simp only [List.getElem?_toArray, List.getElem?_cons_zero, List.getElem?_cons_succ] at g0 g1
            exact bodyPost_ret (v := .agg #[.slice (some ⟨ga, 0, none⟩) (n0 + 1) ca, .slice (some ⟨gb, 0, none⟩) (n0 + 1) cb]) (by simp [results, Tryz.results99, go_sem, g0, g1]) rfl ⟨_, rfl, HF.out, HGF.out, HSF.out⟩

end Go.Proofs.YtdjhfeaimmpmhaaGreat

set_option maxRecDepth 100000
set_option linter.unusedVariables false
set_option linter.unusedSimpArgs false
namespace Go.Proofs.YtdjhfeaimmpmhaaGreat
open Go.RowKit

theorem chgOf {w w' : World} {p N : Nat} (h : w.grownBy w' (some p)) (hp : p < N) : Chg 0 N w w' := ⟨h.os, h.tape, h.output, h.size, fun k hk hd => h.block k hk (by intro e; injection e with e; omega)⟩
theorem ByB.belowS {w w' : World} {B n : Nat} {A : Option Addr} (h : ByB w B A n) (hB : B ≤ w.heap.size) (hb : Below B w w') : ByB w' B A n := fun k hk => by
  obtain ⟨ad, z, rfl, h1, h2, h3, h4, h5⟩ := h k hk
  exact ⟨ad, z, rfl, h1, Nat.lt_of_lt_of_le h2 hb.size, h3, h4, by rw [hb.cell (by rw [block_add]; exact h1)]; exact h5⟩
theorem ByB.monoS {w : World} {B B' n : Nat} {A : Option Addr} (h : ByB w B A n) (hB : B ≤ B') : ByB w B' A n := fun k hk => by
  obtain ⟨ad, z, rfl, h1, h2⟩ := h k hk
  exact ⟨ad, z, rfl, Nat.lt_of_lt_of_le h1 hB, h2⟩
end Go.Proofs.YtdjhfeaimmpmhaaGreat

