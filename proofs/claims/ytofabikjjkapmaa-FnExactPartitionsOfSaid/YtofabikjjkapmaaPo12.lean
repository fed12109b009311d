/- Plain: lists of partitions of one's own whose rows lie apart, across the partitions too. No walk. | A region that draws its order, whose operations yield one value each in every world of a class S, and leave a world of S: one walk in the order of the text. No program in sight. | The laws' equality, marking and holding of partitions. | The laws' marking and holding of lists of partitions, walked; what the law keeps of them. -/
import Derived.Test.YtofabikjjkapmaaPo9
import Derived.Test.YtofabikjjkapmaaPo11
import Derived.Test.YtofabikjjkapmaaPo2
import Derived.BigQuiet
import Derived.Below
import Derived.Deep.RegionLaw
set_option maxRecDepth 100000
set_option linter.unusedVariables false
set_option linter.unusedSimpArgs false
namespace Go.Proofs.Ytofabikjjkapmaa
open Go.RowKit Go.Sort Go.Shelf

/-- the rows of a partition that begins with these two cells: those of the pieces and the skeleton -/
def Ftp (w : World) (h : List Value) (us : List Value) : Prop := ∃ p s vs, h = [p, s] ∧ Own w 0 tL p vs ∧ us = vs ++ [s]
theorem Ftp.below {w w' : World} {h us : List Value} (a : Ftp w h us) (hb : Below w.heap.size w w') : Ftp w' h us := by
  obtain ⟨p, s, vs, h1, h2, h3⟩ := a
  exact ⟨p, s, vs, h1, h2.below hb, h3⟩
theorem Ftp.kept {w w' : World} {h us : List Value} {e : TypeId} {v : Value} (a : Ftp w h us) (hg : w.grownBy w' v.ownBlock) (hb : BT w e v) (h2 : tL ≠ e) : Ftp w' h us := by
  obtain ⟨p, s, vs, a1, a2, a3⟩ := a
  exact ⟨p, s, vs, a1, a2.kept hg (a2.bt.ne hb h2), a3⟩
theorem own_unique {w : World} {B B' : Nat} {e e' : TypeId} {v : Value} {vs vs' : List Value} (h : Own w B e v vs) (h' : Own w B' e' v vs') : vs = vs' := by
  have hl : vs.length = vs'.length := by
    obtain ⟨A, c, h1, -⟩ := h.cells
    obtain ⟨A', c', h2, -⟩ := h'.cells
    rw [h1] at h2
    simp only [Value.slice.injEq] at h2
    exact h2.2.1
  apply List.ext_getElem hl
  intro i h1 h2
  obtain ⟨ad, n, c, e1, c1⟩ := h.cells.at_ (List.getElem?_eq_getElem h1)
  obtain ⟨ad', n', c', e2, c2⟩ := h'.cells.at_ (List.getElem?_eq_getElem h2)
  rw [e1] at e2
  simp only [Value.slice.injEq, Option.some.injEq] at e2
  obtain ⟨rfl, -, -⟩ := e2
  rw [c1] at c2
  simpa using c2
theorem Ftp.unique {w : World} {h us us' : List Value} (a : Ftp w h us) (b : Ftp w h us') : us = us' := by
  obtain ⟨p, s, vs, rfl, a2, rfl⟩ := a
  obtain ⟨p', s', vs', e, b2, rfl⟩ := b
  injection e with e1 e2
  injection e2 with e2 _
  subst e1; subst e2
  rw [own_unique a2 b2]
/-- all rows of a partition lie apart -/
def InC (w : World) (h : List Value) : Prop := ∃ us, Ftp w h us ∧ us.Pairwise Apart
/-- the rows of two partitions lie apart -/
def ApC (w : World) (h h' : List Value) : Prop := ∃ us us', Ftp w h us ∧ Ftp w h' us' ∧ ∀ u ∈ us, ∀ u' ∈ us', Apart u u'
theorem ApC.symm {w : World} {h h' : List Value} (a : ApC w h h') : ApC w h' h := by
  obtain ⟨us, us', h1, h2, h3⟩ := a
  exact ⟨us', us, h2, h1, fun u hu u' hu' => (h3 u' hu' u hu).symm⟩
structure PtOk (w : World) (hs : List (List Value)) : Prop where
  one : ∀ h ∈ hs, InC w h
  two : hs.Pairwise (ApC w)
section
variable {w w' : World} {hs hs' : List (List Value)}
theorem PtOk.nil (w : World) : PtOk w [] := ⟨fun h hh => (by cases hh), List.Pairwise.nil⟩
theorem PtOk.below (h : PtOk w hs) (hb : Below w.heap.size w w') : PtOk w' hs :=
  ⟨fun x hx => (by obtain ⟨us, a, b⟩ := h.one x hx; exact ⟨us, a.below hb, b⟩), h.two.imp fun {a b} hh => by obtain ⟨us, us', h1, h2, h3⟩ := hh; exact ⟨us, us', h1.below hb, h2.below hb, h3⟩⟩
theorem PtOk.kept {e : TypeId} {v : Value} (h : PtOk w hs) (hg : w.grownBy w' v.ownBlock) (hb : BT w e v) (h2 : tL ≠ e) : PtOk w' hs :=
  ⟨fun x hx => (by obtain ⟨us, a, b⟩ := h.one x hx; exact ⟨us, a.kept hg hb h2, b⟩), h.two.imp fun {a b} hh => by obtain ⟨us, us', h1, h3, h4⟩ := hh; exact ⟨us, us', h1.kept hg hb h2, h3.kept hg hb h2, h4⟩⟩
theorem PtOk.sub (h : PtOk w hs) (hh : hs'.Sublist hs) : PtOk w hs' := ⟨fun x hx => h.one x (hh.subset hx), h.two.sublist hh⟩
theorem PtOk.perm (h : PtOk w hs) (hh : hs'.Perm hs) : PtOk w hs' := ⟨fun x hx => h.one x (hh.mem_iff.1 hx), (hh.pairwise_iff fun h => h.symm).2 h.two⟩
theorem PtOk.snoc {x : List Value} (h : PtOk w hs) (h1 : InC w x) (h2 : ∀ y ∈ hs, ApC w y x) : PtOk w (hs ++ [x]) := by
  refine ⟨fun z hz => ?_, List.pairwise_append.2 ⟨h.two, List.pairwise_singleton _ _, fun y hy z hz => ?_⟩⟩
  · rcases List.mem_append.1 hz with hz | hz
    · exact h.one z hz
    · rw [List.mem_singleton.1 hz]; exact h1
  · rw [List.mem_singleton.1 hz]; exact h2 y hy
end
def hd2 (css : List (List Value)) : List (List Value) := css.map (List.take 2)
theorem hd2_snoc (css : List (List Value)) (c : List Value) : hd2 (css ++ [c]) = hd2 css ++ [c.take 2] := by simp [hd2]
/-- the rows of an element lie where it says -/
theorem ftp_of {w : World} {B n : Nat} {c : List Value} {x : PK} (h : (ePt n).D w B c x) : ∃ us, Ftp w (c.take 2) us ∧ ∀ u ∈ us, ∀ b, u.ownBlock = some b → B ≤ b ∧ b < w.heap.size := by
  obtain ⟨p, s, rfl, hp0, hs0⟩ := h
  have hp : LA w B p (x.1.map up) := hp0
  have hs : OwnInts w B tI s (up x.2) := hs0
  obtain ⟨vs, h1, h2, -⟩ := hp
  refine ⟨vs ++ [s], ⟨p, s, vs, rfl, h1.mono (Nat.zero_le _), rfl⟩, fun u hu b hb => ?_⟩
  rcases List.mem_append.1 hu with hu | hu
  · obtain ⟨k, hk, rfl⟩ := List.getElem_of_mem hu
    have hz : (x.1.map up)[k]? = some ((x.1.map up)[k]'(by rw [← h2.1]; exact hk)) := List.getElem?_eq_getElem _
    have ho := h2.2 k _ _ (List.getElem?_eq_getElem hk) hz
    exact ⟨ho.1.ge b hb, ho.1.lt b hb⟩
  · rw [List.mem_singleton.1 hu] at hb
    exact ⟨hs.1.ge b hb, hs.1.lt b hb⟩
theorem inC_of {w : World} {B : Nat} {x y : Value} {xss : List (List Int)} {zs : List Int} (h : FSK w B x y xss zs) : InC w [x, y] := by
  obtain ⟨vs, h1, h2, h3, h4⟩ := h
  exact ⟨vs ++ [y], ⟨x, y, vs, rfl, h1.mono (Nat.zero_le _), rfl⟩, h3⟩
/-- a partition that has just been made is put behind the others -/
theorem PtOk.push {w w' : World} {B n m : Nat} {css : List (List Value)} {xs : List PK} {c : List Value} {x : PK} (h : PtOk w (hd2 css)) (he : Elts (ePt n) w B css xs) (hb : Below w.heap.size w w') (hd : (ePt m).D w' w.heap.size c x) (hi : InC w' (c.take 2)) : PtOk w' (hd2 (css ++ [c])) := by
  rw [hd2_snoc]
  refine (h.below hb).snoc hi fun y hy => ?_
  obtain ⟨c', hc', rfl⟩ := List.mem_map.1 hy
  obtain ⟨i, hi', rfl⟩ := List.getElem_of_mem hc'
  have hx : xs[i]? = some (xs[i]'(by rw [← he.1]; exact hi')) := List.getElem?_eq_getElem _
  obtain ⟨us, h1, h2⟩ := ftp_of (he.2 i _ _ (List.getElem?_eq_getElem hi') hx)
  obtain ⟨us', h3, h4⟩ := ftp_of hd
  exact ⟨us, us', h1.below hb, h3, fun u hu u' hu' => apart_of_lt (B := w.heap.size) (fun b hb => (h2 u hu b hb).2) (fun b hb => (h4 u' hu' b hb).1)⟩
theorem hd2_set {css : List (List Value)} {m : Nat} {c c' : List Value} (h : css[m]? = some c) (hc : c.take 2 = c'.take 2) : hd2 (css.set m c') = hd2 css := by
  unfold hd2
  rw [List.map_set]
  apply List.ext_getElem?
  intro i
  rw [List.getElem?_set]
  split
  · rename_i e
    subst e
    split
    · rw [List.getElem?_map, h, ← hc]; rfl
    · rename_i h1
      rw [List.length_map] at h1
      rw [List.getElem?_map, h] ; exact absurd (List.getElem?_eq_some_iff.1 h).1 h1
  · rfl
theorem sub_snoc {hs hs2 : List (List Value)} {k : Nat} {x : List Value} (h : hs.Sublist (hs2.take k)) (hx : hs2[k]? = some x) : (hs ++ [x]).Sublist (hs2.take (k + 1)) := by
  rw [List.take_add_one, hx]
  exact h.append (List.Sublist.refl _)
theorem sub_more {hs hs2 : List (List Value)} {k : Nat} (h : hs.Sublist (hs2.take k)) : hs.Sublist (hs2.take (k + 1)) := by
  refine h.trans ?_
  rw [List.take_add_one]
  exact List.sublist_append_left _ _

/-! ### as the law sees them -/
/-- a partition, as numbers: pieces, skeleton, count -/
abbrev PV := (List (List Int) × List Int) × Int
def pv (x : PK × Nat) : PV := ((x.1.1.map up, up x.1.2), (x.2 : Int))
/-- what can be read -/
def RdP (w : World) (v : Value) (ps : List PV) : Prop := ∃ A c, v = .slice A ps.length c ∧ ps.length ≤ 9223372036854775807 ∧
  ∀ (i : Nat) (q : PV), ps[i]? = some q → ∃ g p s, A = some ⟨g, 0, none⟩ ∧ w.cell? ⟨g, i * 3, none⟩ = some p ∧ w.cell? ⟨g, i * 3 + 1, none⟩ = some s ∧ w.cell? ⟨g, i * 3 + 2, none⟩ = some (.int .i64 q.2) ∧ Rows w p q.1.1 ∧ Ints w s q.1.2
theorem RdP.below {w w' : World} {v : Value} {ps : List PV} (h : RdP w v ps) (hb : Below w.heap.size w w') : RdP w' v ps := by
  obtain ⟨A, c, rfl, h1, h2⟩ := h
  refine ⟨A, c, rfl, h1, fun i q hq => ?_⟩
  obtain ⟨g, p, s, rfl, a1, a2, a3, a4, a5⟩ := h2 i q hq
  have hg := World.block_lt_of_cell? w _ a1
  exact ⟨g, p, s, rfl, by rw [hb.cell (by exact hg)]; exact a1, by rw [hb.cell (by exact hg)]; exact a2, by rw [hb.cell (by exact hg)]; exact a3, a4.below hb, a5.below hb⟩
theorem SLs.rdP {w : World} {B : Nat} {v : Value} {G : List (PK × Nat)} (h : SLs ePc tPt w B v G) : RdP w v (G.map pv) := by
  obtain ⟨A, c, rfl, h1, h2⟩ := h.open_
  refine ⟨A, c, by rw [List.length_map], by rw [List.length_map]; omega, fun i q hq => ?_⟩
  rw [List.getElem?_map] at hq
  cases hx : G[i]? with
  | none => rw [hx] at hq; cases hq
  | some x =>
    rw [hx] at hq
    simp only [Option.map_some, Option.some.injEq] at hq
    subst hq
    obtain ⟨css, ho, he⟩ := h
    obtain ⟨cc, hcc, u, s, rfl, hu, hs⟩ := he.at_ hx
    have hu := (show LA w B u (x.1.1.map up) from hu).rows
    have hs := (show OwnInts w B tI s (up x.1.2) from hs).ints
    obtain ⟨g, cap, e, k0⟩ := OwnK.cell (k := 3) ho hcc (j := 0) rfl
    simp only [Value.slice.injEq] at e
    obtain ⟨rfl, -, rfl⟩ := e
    have k1 := OwnK.cellAt (k := 3) ho hcc (j := 1) rfl
    have k2 := OwnK.cellAt (k := 3) ho hcc (j := 2) rfl
    rw [Nat.add_zero] at k0
    exact ⟨g, u, s, rfl, k0, k1, k2, hu, hs⟩

/-- the values of a partition: its pieces, their rows, the skeleton -/
abbrev DV := Value × List Value × Value
def cellP (d : DV) (q : PV) : List Value := [d.1, d.2.2, .int .i64 q.2]
/-- a list of partitions of one's own, rows apart -/
structure OPD (w : World) (B C : Nat) (v : Value) (ds : List DV) (ps : List PV) : Prop where
  own : OwnK w B tPt 3 v (List.zipWith cellP ds ps)
  lt : ∀ b, v.ownBlock = some b → b < C
  len : ds.length = ps.length
  ge : B ≤ C
  at_ : ∀ (i : Nat) (d : DV) (q : PV), ds[i]? = some d → ps[i]? = some q → Own w B tL d.1 d.2.1 ∧ (∀ b, d.1.ownBlock = some b → b < C) ∧ RowsOwn w B C tI (d.2.1 ++ [d.2.2]) (q.1.1 ++ [q.1.2])
  apart : ∀ (i j : Nat) (d d' : DV), i ≠ j → ds[i]? = some d → ds[j]? = some d' → ∀ u ∈ d.2.1 ++ [d.2.2], ∀ u' ∈ d'.2.1 ++ [d'.2.2], Apart u u'
section
variable {w w' : World} {B C B' C' : Nat} {v : Value} {ds : List DV} {ps : List PV}
theorem RowsOwn.split {w : World} {B C : Nat} {e : TypeId} {vs : List Value} {s : Value} {xss : List (List Int)} {zs : List Int} (h : RowsOwn w B C e (vs ++ [s]) (xss ++ [zs])) : RowsOwn w B C e vs xss ∧ OI w B C e s zs ∧ ∀ (k : Nat) (u : Value), vs[k]? = some u → Apart u s := by
  have hl : vs.length = xss.length := by have := h.1; simpa using this
  refine ⟨⟨hl, fun k u z hu hz => ?_, fun i j u u' hij hu hu' => ?_⟩, ?_, fun k u hu => ?_⟩
  · exact h.2.1 k u z (by rw [List.getElem?_append_left (List.getElem?_eq_some_iff.1 hu).1]; exact hu) (by rw [List.getElem?_append_left (List.getElem?_eq_some_iff.1 hz).1]; exact hz)
  · exact h.2.2 i j u u' hij (by rw [List.getElem?_append_left (List.getElem?_eq_some_iff.1 hu).1]; exact hu) (by rw [List.getElem?_append_left (List.getElem?_eq_some_iff.1 hu').1]; exact hu')
  · exact h.2.1 vs.length s zs (by simp) (by rw [hl]; simp)
  · have hk := (List.getElem?_eq_some_iff.1 hu).1
    exact h.2.2 k vs.length u s hk (by rw [List.getElem?_append_left hk]; exact hu) (by simp)
theorem OPD.below (h : OPD w B C v ds ps) (hb : Below w.heap.size w w') : OPD w' B C v ds ps :=
  ⟨h.own.below hb, h.lt, h.len, h.ge, fun i d q hd hq => ⟨(h.at_ i d q hd hq).1.below hb, (h.at_ i d q hd hq).2.1, (h.at_ i d q hd hq).2.2.below hb⟩, h.apart⟩
theorem OPD.kept (h : OPD w B C v ds ps) (hc : Chg B' C' w w') (hd : C ≤ B' ∨ C' ≤ B) : OPD w' B C v ds ps :=
  ⟨h.own.of_block fun b hb => hc.block b (h.own.lt b hb) (by have := h.own.ge b hb; have := h.lt b hb; omega), h.lt, h.len, h.ge,
   fun i d q hd' hq => ⟨(h.at_ i d q hd' hq).1.of_block fun b hb => hc.block b ((h.at_ i d q hd' hq).1.lt b hb) (by have := (h.at_ i d q hd' hq).1.ge b hb; have := (h.at_ i d q hd' hq).2.1 b hb; omega), (h.at_ i d q hd' hq).2.1, (h.at_ i d q hd' hq).2.2.kept hc hd⟩, h.apart⟩
theorem OPD.mono (h : OPD w B C v ds ps) (h1 : B' ≤ B) (h2 : C ≤ C') : OPD w B' C' v ds ps :=
  ⟨h.own.mono h1, fun b hb => Nat.lt_of_lt_of_le (h.lt b hb) h2, h.len, Nat.le_trans h1 (Nat.le_trans h.ge h2), fun i d q hd hq => ⟨(h.at_ i d q hd hq).1.mono h1, fun b hb => Nat.lt_of_lt_of_le ((h.at_ i d q hd hq).2.1 b hb) h2, (h.at_ i d q hd hq).2.2.mono h1 h2⟩, h.apart⟩
theorem OPD.zlen (h : OPD w B C v ds ps) : (List.zipWith cellP ds ps).length = ps.length := by rw [List.length_zipWith, h.len, Nat.min_self]
theorem OPD.zat (h : OPD w B C v ds ps) {i : Nat} {d : DV} {q : PV} (hd : ds[i]? = some d) (hq : ps[i]? = some q) : (List.zipWith cellP ds ps)[i]? = some (cellP d q) := by
  rw [List.getElem?_zipWith, hd, hq]
theorem OPD.open_ (h : OPD w B C v ds ps) : ∃ A c, v = .slice A ps.length c ∧ ps.length ≤ c ∧ c ≤ 9223372036854775807 := by
  have := OwnK.open_ (k := 3) h.own
  rwa [h.zlen] at this
theorem OPD.dat (h : OPD w B C v ds ps) {i : Nat} {q : PV} (hq : ps[i]? = some q) : ∃ d, ds[i]? = some d :=
  ⟨_, List.getElem?_eq_getElem (by rw [h.len]; exact (List.getElem?_eq_some_iff.1 hq).1)⟩
theorem OPD.rdP (h : OPD w B C v ds ps) : RdP w v ps := by
  obtain ⟨A, c, rfl, h1, h2⟩ := h.open_
  refine ⟨A, c, rfl, by omega, fun i q hq => ?_⟩
  obtain ⟨d, hd⟩ := h.dat hq
  obtain ⟨a1, -, a3⟩ := h.at_ i d q hd hq
  obtain ⟨b1, b2, -⟩ := a3.split
  obtain ⟨g, cap, e, k0⟩ := OwnK.cell (k := 3) h.own (h.zat hd hq) (j := 0) rfl
  simp only [Value.slice.injEq] at e
  obtain ⟨rfl, -, rfl⟩ := e
  have hown := h.own
  have k1 := OwnK.cellAt (k := 3) hown (h.zat hd hq) (j := 1) rfl
  have k2 := OwnK.cellAt (k := 3) hown (h.zat hd hq) (j := 2) rfl
  rw [Nat.add_zero] at k0
  exact ⟨g, d.1, d.2.2, rfl, k0, k1, k2, ⟨_, a1.cells, b1.1, fun k u x hu hx => (b1.2.1 k u x hu hx).ints⟩, b2.ints⟩
end
/-- from what the walk of partitionsOf tells -/
theorem opd_of {w : World} {B : Nat} {v : Value} {css : List (List Value)} {G : List (PK × Nat)} (h : OwnK w B tPt 3 v css) (he : Elts ePc w B css G) (hp : PtOk w (hd2 css)) (hB : B ≤ w.heap.size) : ∃ ds, OPD w B w.heap.size v ds (G.map pv) := by
  have hex : ∀ (css : List (List Value)) (G : List (PK × Nat)), Elts ePc w B css G → ∃ ds : List DV, List.zipWith cellP ds (G.map pv) = css ∧ ds.length = G.length ∧
      ∀ (i : Nat) (d : DV) (x : PK × Nat), ds[i]? = some d → G[i]? = some x → Own w B tL d.1 d.2.1 ∧ RR w B d.2.1 (x.1.1.map up) ∧ OwnInts w B tI d.2.2 (up x.1.2) ∧ (hd2 css)[i]? = some [d.1, d.2.2] := by
    intro css
    induction css with
    | nil => intro G he; have : G = [] := List.eq_nil_of_length_eq_zero he.1.symm; subst this; exact ⟨[], rfl, rfl, fun i d x h => by simp at h⟩
    | cons c css ih =>
      intro G he
      cases G with
      | nil => have := he.1; simp at this
      | cons x G =>
        obtain ⟨p, s, rfl, hp0, hs0⟩ := he.2 0 c x rfl rfl
        have hp : LA w B p (x.1.1.map up) := hp0
        have hs : OwnInts w B tI s (up x.1.2) := hs0
        obtain ⟨vs, g1, g2, -⟩ := hp
        obtain ⟨ds, h1, h2, h3⟩ := ih G ⟨by have := he.1; simpa using this, fun i c' x' hc hx => he.2 (i + 1) c' x' (by simpa using hc) (by simpa using hx)⟩
        refine ⟨(p, vs, s) :: ds, by simp [h1, cellP, pv], by simp [h2], fun i d x' hd hx => ?_⟩
        cases i with
        | zero =>
          simp only [List.getElem?_cons_zero, Option.some.injEq] at hd hx
          subst hd; subst hx
          exact ⟨g1, g2, hs, by simp [hd2]⟩
        | succ i =>
          simp only [List.getElem?_cons_succ] at hd hx
          exact h3 i d x' hd hx
  obtain ⟨ds, h1, h2, h3⟩ := hex css G he
  have hfp : ∀ (i : Nat) (d : DV), ds[i]? = some d → ∃ x, G[i]? = some x := fun i d hd => ⟨_, List.getElem?_eq_getElem (by rw [← h2]; exact (List.getElem?_eq_some_iff.1 hd).1)⟩
  refine ⟨ds, by rw [h1]; exact h, OwnK.lt (k := 3) h, by rw [h2, List.length_map], hB, fun i d q hd hq => ?_, fun i j d d' hij hd hd' => ?_⟩
  · obtain ⟨x, hx⟩ := hfp i d hd
    rw [List.getElem?_map, hx] at hq
    simp only [Option.map_some, Option.some.injEq] at hq
    subst hq
    obtain ⟨a1, a2, a3, a4⟩ := h3 i d x hd hx
    obtain ⟨us, b1, b2⟩ := hp.one _ (List.mem_of_getElem? a4)
    have hu := b1.unique ⟨_, _, d.2.1, rfl, a1.mono (Nat.zero_le _), rfl⟩
    subst hu
    refine ⟨a1, a1.lt, ?_⟩
    have hap := b2
    refine ⟨by simp [a2.1, pv], fun k u zs hu hz => ?_, fun k l u u' hkl hu hu' => ?_⟩
    · by_cases hk : k < d.2.1.length
      · rw [List.getElem?_append_left hk] at hu
        rw [List.getElem?_append_left (by rw [show (pv x).1.1 = x.1.1.map up from rfl, ← a2.1]; exact hk)] at hz
        exact OI.of (a2.2 k u zs hu hz)
      · have hk' : k = d.2.1.length := by have := (List.getElem?_eq_some_iff.1 hu).1; simp at this; omega
        subst hk'
        rw [List.getElem?_append_right (Nat.le_refl _)] at hu
        rw [List.getElem?_append_right (by rw [show (pv x).1.1 = x.1.1.map up from rfl, ← a2.1]; exact Nat.le_refl _), show (pv x).1.1 = x.1.1.map up from rfl, ← a2.1] at hz
        simp only [Nat.sub_self, List.getElem?_cons_zero, Option.some.injEq] at hu hz
        subst hu; subst hz
        exact OI.of a3
    · have hk1 := (List.getElem?_eq_some_iff.1 hu).1
      have hl1 := (List.getElem?_eq_some_iff.1 hu').1
      have := List.pairwise_iff_getElem.1 hap k l hk1 hl1 hkl
      rwa [(List.getElem?_eq_some_iff.1 hu).2, (List.getElem?_eq_some_iff.1 hu').2] at this
  · obtain ⟨x, hx⟩ := hfp i d hd
    obtain ⟨x', hx'⟩ := hfp j d' hd'
    obtain ⟨a1, a2, a3, a4⟩ := h3 i d x hd hx
    obtain ⟨b1, b2, b3, b4⟩ := h3 j d' x' hd' hx'
    have hgo : ∀ (k l : Nat) (y y' : List Value), k < l → (hd2 css)[k]? = some y → (hd2 css)[l]? = some y' → ApC w y y' := fun k l y y' hkl hy hy' => by
      have hk1 := (List.getElem?_eq_some_iff.1 hy).1
      have hl1 := (List.getElem?_eq_some_iff.1 hy').1
      have := List.pairwise_iff_getElem.1 hp.two k l hk1 hl1 hkl
      rwa [(List.getElem?_eq_some_iff.1 hy).2, (List.getElem?_eq_some_iff.1 hy').2] at this
    have hac : ApC w [d.1, d.2.2] [d'.1, d'.2.2] := by
      rcases Nat.lt_or_gt_of_ne hij with hlt | hlt
      · exact hgo i j _ _ hlt a4 b4
      · exact (hgo j i _ _ hlt b4 a4).symm
    obtain ⟨us, us', c1, c2, c3⟩ := hac
    have e1 := c1.unique ⟨_, _, d.2.1, rfl, a1.mono (Nat.zero_le _), rfl⟩
    have e2 := c2.unique ⟨_, _, d'.2.1, rfl, b1.mono (Nat.zero_le _), rfl⟩
    subst e1; subst e2
    exact c3
end Go.Proofs.Ytofabikjjkapmaa

set_option linter.unusedVariables false
set_option linter.unusedSimpArgs false
namespace Go.Proofs.Ytofabikjjkapmaa
open Go Go.RowKit

/-- a world of the class -/
structure GW (S : World → Prop) where
  w : World
  h : S w

theorem wp_region_grow {P : Program} {id : Nat} {Q : Exit → Act → World → Prop} {a : Act} {w : World} {l : List Oper} (S : World → Prop) (hm : P.follows .mixedOrders = true) (hB : Region.lexB .any l.toArray = true) (hC : S w.drew)
    (h : Nonempty (GW S) → wpQuiet P l.toArray (fun w' => ∃ x : GW S, w' = x.w) (fun a' => ∀ w', (∃ x : GW S, w' = x.w) → Q .normal a' w') l a) : (Code.region id l.toArray true).wp P Q a w :=
  wp_region_quiet (C := fun w' => ∃ x : GW S, w' = x.w) hm hB ⟨⟨_, hC⟩, rfl⟩ (by simpa using h ⟨⟨_, hC⟩⟩)

/-- a callee that leaves a world of the class -/
theorem grow_call {P : Program} {f : FuncId} {args : Array Value} {w : World} {v : Value} {S : World → Prop} (h : Calls P f args w fun e w' => e = .returned v ∧ S w') : Calls P f args w fun e w'' => e = .returned v ∧ ∃ x : GW S, w'' = x.w :=
  h.mono fun _ w' ⟨he, hw⟩ => ⟨he, ⟨w', hw⟩, rfl⟩
end Go.Proofs.Ytofabikjjkapmaa

set_option maxRecDepth 100000
set_option linter.unusedVariables false
set_option linter.unusedSimpArgs false
namespace Go.Proofs.Ytofabikjjkapmaa
open Go.RowKit Go.Sort Go.Shelf

set_option maxHeartbeats 2000000 in
theorem l_eqPartition (w : World) (p s p' s' : Value) (q : PV) (hp : Rows w p q.1.1) (hs : Ints w s q.1.2) (hp' : Rows w p' q.1.1) (hs' : Ints w s' q.1.2) :
    Calls Try.prog 38 #[.agg #[p, s, .int .i64 q.2], .agg #[p', s', .int .i64 q.2]] w fun e w' => e = .returned (.bool true) ∧ Below w.heap.size w w' := by
  have BB := Lib.hid (below2 w (.cells #[p, s, .int .i64 q.2] tPt) (.cells #[p', s', .int .i64 q.2] tPt))
  have H1 := Lib.hid (hp.below BB.out)
  have H2 := Lib.hid (hp'.below BB.out)
  have H3 := Lib.hid (hs.below BB.out)
  have H4 := Lib.hid (hs'.below BB.out)
  obtain ⟨A1, c1, rfl, -, -, -⟩ := hp.open_
  obtain ⟨A2, c2, rfl, -, -, -⟩ := hp'.open_
  obtain ⟨A3, c3, rfl, -, -, -⟩ := hs.open_
  obtain ⟨A4, c4, rfl, -, -, -⟩ := hs'.open_
  clear hp hp' hs hs'
  obtain ⟨⟨P, S⟩, n⟩ := q
  simp only at H1 H2 H3 H4 BB ⊢
  go_enter Try.func38, Try.ntmps38
  go_wp2_with (first
    | (go_at_call 10; go_loud (refine (l_eqInt64SS _ _ _ P P H1.out H2.out).mono ?_; rintro e w1 ⟨rfl, n1, rfl⟩; rw [show decide (P = P) = true from decide_eq_true rfl]))
    | (go_at_call 18; go_loud (refine (l_eqInt64S _ _ _ S S (H3.out.drewN n1) (H4.out.drewN n1)).mono ?_; rintro e w2 ⟨rfl, n2, rfl⟩; rw [show decide (S = S) = true from decide_eq_true rfl])))
  go_ret
  exact ⟨rfl, by first | exact below_drewN BB.out _ | exact below_drewN (below_drewN BB.out _) _⟩

set_option maxHeartbeats 4000000 in
theorem n_eq_parts (w : World) (a b : Value) (ps : List PV) (ha : RdP w a ps) (hb : RdP w b ps) :
    Calls Try.prog 17 #[a, b] w fun e w' => e = .returned (.bool true) ∧ Below w.heap.size w w' := by
  obtain ⟨A, c, rfl, h1, h3⟩ := ha
  obtain ⟨B, d, rfl, g1, g3⟩ := hb
  have H3 := Lib.hid h3
  have G3 := Lib.hid g3
  clear h3 g3 g1
  go_enter Try.func17, Try.ntmps17
  go_wp2_with fail
  go_loopw [5] (fun i wr => ∃ k : Nat, k ≤ ps.length ∧ i = .int .i64 k ∧ Below w.heap.size w wr) (fun i _ => ps.length - (intOf i).toNat)
  case atStart => exact ⟨0, Nat.zero_le _, rfl, Below.refl _ _⟩
  case round =>
    obtain ⟨k, hk, rfl, hbw⟩ := hrel
    have HB := Lib.hid hbw
    clear hbw
    by_cases hlt : k < ps.length
    · have hq : ps[k]? = some (ps[k]'hlt) := List.getElem?_eq_getElem _
      generalize ps[k]'hlt = q at hq
      obtain ⟨g, p, s, rfl, a1, a2, a3, a4, a5⟩ := H3.out k q hq
      obtain ⟨g', p', s', rfl, b1, b2, b3, b4, b5⟩ := G3.out k q hq
      have hab1 : g < w.heap.size := World.block_lt_of_cell? w _ a1
      have hab2 : g' < w.heap.size := World.block_lt_of_cell? w _ b1
      have q1 : wr.cell? ⟨g, k * 3, none⟩ = some p := by rw [HB.out.cell (by exact hab1)]; exact a1
      have q2 : wr.cell? ⟨g, k * 3 + 1, none⟩ = some s := by rw [HB.out.cell (by exact hab1)]; exact a2
      have q3 : wr.cell? ⟨g, k * 3 + 2, none⟩ = some (.int .i64 q.2) := by rw [HB.out.cell (by exact hab1)]; exact a3
      have r1 : wr.cell? ⟨g', k * 3, none⟩ = some p' := by rw [HB.out.cell (by exact hab2)]; exact b1
      have r2 : wr.cell? ⟨g', k * 3 + 1, none⟩ = some s' := by rw [HB.out.cell (by exact hab2)]; exact b2
      have r3 : wr.cell? ⟨g', k * 3 + 2, none⟩ = some (.int .i64 q.2) := by rw [HB.out.cell (by exact hab2)]; exact b3
      have M := Lib.hid (fun X (hX : Below w.heap.size w X) => l_eqPartition X p s p' s' q (a4.below hX) (a5.below hX) (b4.below hX) (b5.below hX))
      have hki : (k : Int) < (ps.length : Int) := by omega
      generalize q.2 = cnt at q3 r3 M
      clear a1 a2 a3 a4 a5 b1 b2 b3 b4 b5 hq hab1 hab2
      go_wp2_with fail
      go_region_law (go_simp; go_at_call 38; refine (M.out _ (by first | exact HB.out.drew | exact HB.out)).mono ?_; rintro e w5 ⟨rfl, hb5⟩)
      all_goals
        have HB5 := Lib.hid (HB.out.trans ((below_of_drew hb5).mono HB.out.size))
        clear hb5 q1 q2 q3 r1 r2 r3
        go_wp2_with fail
        go_roundw
        case rel => exact ⟨k + 1, by omega, by go_num, HB5.out⟩
        case measure => simp [intOf]; omega
    · have : k = ps.length := by omega
      subst this
      go_wp2_with fail
      go_ret
      exact ⟨rfl, HB.out⟩

/-! ### marks -/
def ptSz (q : PV) : Nat := tot q.1.1 + q.1.2.length + 1
def ptTot : List PV → Nat
  | [] => 0
  | q :: r => ptSz q + ptTot r
theorem ptTot_append (a b : List PV) : ptTot (a ++ b) = ptTot a + ptTot b := by
  induction a with
  | nil => simp [ptTot]
  | cons m a ih => simp [ptTot, ih]; omega
theorem ptTot_take_succ {ps : List PV} {j : Nat} {q : PV} (h : ps[j]? = some q) : ptTot (ps.take (j + 1)) = ptTot (ps.take j) + ptSz q := by
  rw [List.take_add_one, h, ptTot_append]; simp [ptTot]
theorem ptTot_take_le (ps : List PV) (j : Nat) : ptTot (ps.take j) ≤ ptTot ps := by
  conv => rhs; rw [← List.take_append_drop j ps]
  rw [ptTot_append]; omega
def mkP (k : Int) (q : PV) : PV := ((markRows k q.1.1, marks (k + (tot q.1.1 : Nat)) q.1.2.length), k + (tot q.1.1 : Nat) + (q.1.2.length : Int))
def markP : Int → List PV → List PV
  | _, [] => []
  | k, q :: r => mkP k q :: markP (k + (ptSz q : Nat)) r
theorem markP_len : ∀ (k : Int) (ps : List PV), (markP k ps).length = ps.length
  | _, [] => rfl
  | k, q :: r => by simp [markP, markP_len _ r]
theorem markP_get : ∀ (k : Int) (ps : List PV) (j : Nat) (q : PV), ps[j]? = some q → (markP k ps)[j]? = some (mkP (k + (ptTot (ps.take j) : Nat)) q)
  | _, [], j, q, h => by simp at h
  | k, y :: r, 0, q, h => by simp at h; subst h; simp [markP, ptTot]
  | k, y :: r, j + 1, q, h => by
    simp only [List.getElem?_cons_succ] at h
    simp only [markP, List.getElem?_cons_succ, List.take_succ_cons]
    rw [markP_get _ r j q h, ptTot]
    congr 2
    push_cast
    omega
def markPT (k : Int) (ps : List PV) (j : Nat) : List PV := (markP k ps).take j ++ ps.drop j
theorem markPT_zero (k : Int) (ps : List PV) : markPT k ps 0 = ps := by simp [markPT]
theorem markPT_all (k : Int) (ps : List PV) : markPT k ps ps.length = markP k ps := by
  unfold markPT
  rw [List.drop_length, List.append_nil, List.take_of_length_le (by rw [markP_len]; exact Nat.le_refl _)]
theorem markPT_get {k : Int} {ps : List PV} {j : Nat} {q : PV} (h : ps[j]? = some q) : (markPT k ps j)[j]? = some q := by
  have hj := (List.getElem?_eq_some_iff.1 h).1
  unfold markPT
  rw [List.getElem?_append_right (by simp [markP_len]; omega)]
  simp [markP_len, Nat.min_eq_left (Nat.le_of_lt hj), h]
theorem markPT_set {k : Int} {ps : List PV} {j : Nat} {q : PV} (h : ps[j]? = some q) : (markPT k ps j).set j (mkP (k + (ptTot (ps.take j) : Nat)) q) = markPT k ps (j + 1) := by
  have hj := (List.getElem?_eq_some_iff.1 h).1
  have hm := markP_get k ps j q h
  unfold markPT
  have hl : ((markP k ps).take j).length = j := by simp [markP_len]; omega
  rw [List.set_append_right _ _ (by omega), hl, Nat.sub_self, List.take_add_one, hm]
  rw [List.drop_eq_getElem_cons hj]
  simp only [List.set_cons_zero, List.append_assoc, Option.toList, List.cons_append, List.nil_append]

theorem rowsOwn_far {w w' : World} {B C : Nat} {vs us : List Value} {xss : List (List Int)} (h : RowsOwn w B C tI us xss) (hf : Far vs w w') (ha : ∀ u ∈ us, ∀ v ∈ vs, Apart v u) : RowsOwn w' B C tI us xss :=
  ⟨h.1, fun k u zs hu hz => hf.kept (h.2.1 k u zs hu hz) (fun i v hv => ha u (List.mem_of_getElem? hu) v (List.mem_of_getElem? hv)), h.2.2⟩
theorem own_far {w w' : World} {B C B' : Nat} {e : TypeId} {vs ws : List Value} {xss : List (List Int)} {v : Value} (h : Own w B' e v ws) (hr : RowsOwn w B C tI vs xss) (hf : Far vs w w') (he : e ≠ tI) : Own w' B' e v ws :=
  h.of_block fun b hb => hf b (h.lt b hb) (fun i u hu e1 => by
    have hx : xss[i]? = some (xss[i]'(by rw [← hr.1]; exact (List.getElem?_eq_some_iff.1 hu).1)) := List.getElem?_eq_getElem _
    have := (h.ne_of_type (hr.2.1 i u _ hu hx).1.1 he)
    rcases this with h1 | h1
    · rw [h1] at hb; cases hb
    · exact h1 (by rw [hb, e1]))
theorem ownK_far {w w' : World} {B C B' k : Nat} {e : TypeId} {vs : List Value} {css : List (List Value)} {xss : List (List Int)} {v : Value} (h : OwnK w B' e k v css) (hr : RowsOwn w B C tI vs xss) (hf : Far vs w w') (he : e ≠ tI) : OwnK w' B' e k v css :=
  h.of_block fun b hb => hf b (h.lt b hb) (fun i u hu e1 => by
    have hx : xss[i]? = some (xss[i]'(by rw [← hr.1]; exact (List.getElem?_eq_some_iff.1 hu).1)) := List.getElem?_eq_getElem _
    have := h.bt.ne (hr.2.1 i u _ hu hx).1.1.bt he
    rcases this with h1 | h1
    · rw [h1] at hb; cases hb
    · exact h1 (by rw [hb, e1]))
theorem zipWith_set {α β γ : Type} (f : α → β → γ) : ∀ (xs : List α) (bs : List β) (j : Nat) (a : α) (b : β), xs[j]? = some a → List.zipWith f xs (bs.set j b) = (List.zipWith f xs bs).set j (f a b)
  | [], bs, j, a, b, h => by simp at h
  | x :: xs, [], j, a, b, h => by simp
  | x :: xs, y :: bs, 0, a, b, h => by simp at h; subst h; simp
  | x :: xs, y :: bs, j + 1, a, b, h => by
    simp only [List.getElem?_cons_succ] at h
    simp [zipWith_set f xs bs j a b h]
/-- one partition marked: its rows, its skeleton; then its count is stored -/
theorem OPD.round {w w1 w2 : World} {B C g n cap j : Nat} {ds : List DV} {ps : List PV} {d : DV} {q : PV} {P' : List (List Int)} {S' : List Int} (h : OPD w B C (.slice (some ⟨g, 0, none⟩) n cap) ds ps) (hd : ds[j]? = some d) (hq : ps[j]? = some q)
    (h1 : RowsOwn w1 B C tI d.2.1 P') (h1f : Far d.2.1 w w1) (h2 : OwnInts w2 B tI d.2.2 S') (h2g : w1.grownBy w2 d.2.2.ownBlock) (c : Int) :
    w2.cell? ⟨g, j * 3 + 2, none⟩ = some (.int .i64 q.2) ∧ w2.frozen? ⟨g, j * 3 + 2, none⟩ = false ∧ B ≤ g ∧ g < C ∧ OPD (w2.setCell ⟨g, j * 3 + 2, none⟩ (.int .i64 c)) B C (.slice (some ⟨g, 0, none⟩) n cap) ds (ps.set j ((P', S'), c)) := by
  obtain ⟨a1, a2, a3⟩ := h.at_ j d q hd hq
  obtain ⟨b1, b2, b3⟩ := a3.split
  -- the outer list
  have o1 := ownK_far (k := 3) h.own b1 h1f (by decide)
  have s1 : OI w1 B C tI d.2.2 q.1.2 := h1f.kept b2 b3
  have o2 : OwnK w2 B tPt 3 (.slice (some ⟨g, 0, none⟩) n cap) (List.zipWith cellP ds ps) := OwnK.kept (k := 3) o1 h2g (OwnK.bt (k := 3) o1 |>.ne s1.1.1.bt (by decide))
  have hz := h.zat hd hq
  have k2 := OwnK.cellAt (k := 3) o2 hz (j := 2) rfl
  obtain ⟨-, hfz, -, hst, hgt⟩ := OwnK.storeAt (k := 3) o2 hz (j := 2) (by omega) (.int .i64 c)
  have hge : B ≤ g := OwnK.ge (k := 3) o2 g rfl
  have hlt : g < C := h.lt g rfl
  refine ⟨k2, hfz, hge, hlt, ?_, h.lt, by rw [List.length_set]; exact h.len, h.ge, fun i d' q' hd' hq' => ?_, h.apart⟩
  · rw [zipWith_set cellP ds ps j d _ hd]
    exact hst
  · have hown : ∀ (dd : DV), Own w B tL dd.1 dd.2.1 → Own (w2.setCell ⟨g, j * 3 + 2, none⟩ (.int .i64 c)) B tL dd.1 dd.2.1 := fun dd ho => by
      have p1 := own_far ho b1 h1f (by decide)
      have p2 := p1.kept h2g (p1.ne_of_type s1.1.1 (by decide))
      exact p2.kept hgt (p2.bt.ne (OwnK.bt (k := 3) o2) (by decide))
    have hlast : ∀ (us : List Value) (xss : List (List Int)), RowsOwn w2 B C tI us xss → RowsOwn (w2.setCell ⟨g, j * 3 + 2, none⟩ (.int .i64 c)) B C tI us xss := fun us xss hr =>
      hr.other hgt fun k u hu => by
        have hx : xss[k]? = some (xss[k]'(by rw [← hr.1]; exact (List.getElem?_eq_some_iff.1 hu).1)) := List.getElem?_eq_getElem _
        exact (hr.2.1 k u _ hu hx).1.1.bt.ne (OwnK.bt (k := 3) o2) (by decide)
    by_cases hij : i = j
    · subst hij
      rw [hd] at hd'
      obtain rfl : d = d' := by simpa using hd'
      rw [List.getElem?_set_self (List.getElem?_eq_some_iff.1 hq).1] at hq'
      obtain rfl : ((P', S'), c) = q' := by simpa using hq'
      refine ⟨hown d a1, a2, hlast _ _ ?_⟩
      exact (h1.other h2g b3).snoc ⟨h2, b2.2⟩ b3
    · rw [List.getElem?_set_ne (fun e => hij e.symm)] at hq'
      obtain ⟨e1, e2, e3⟩ := h.at_ i d' q' hd' hq'
      refine ⟨hown d' e1, e2, hlast _ _ ?_⟩
      have hap := h.apart j i d d' (fun e => hij e.symm) hd hd'
      have f1 := rowsOwn_far e3 h1f (fun u hu v hv => hap v (List.mem_append_left _ hv) u hu)
      exact f1.other h2g fun k u hu => (hap d.2.2 (List.mem_append_right _ (List.mem_singleton.2 rfl)) u (List.mem_of_getElem? hu)).symm
end Go.Proofs.Ytofabikjjkapmaa

set_option maxRecDepth 100000
set_option linter.unusedVariables false
set_option linter.unusedSimpArgs false
namespace Go.Proofs.Ytofabikjjkapmaa
open Go.RowKit Go.Sort Go.Shelf

def OPt (w : World) (B C : Nat) (v : Value) (ps : List PV) : Prop := ∃ ds, OPD w B C v ds ps
section
variable {w w' : World} {B C B' C' : Nat} {v : Value} {ps : List PV}
theorem OPt.below (h : OPt w B C v ps) (hb : Below w.heap.size w w') : OPt w' B C v ps := by obtain ⟨ds, h⟩ := h; exact ⟨ds, h.below hb⟩
theorem OPt.kept (h : OPt w B C v ps) (hc : Chg B' C' w w') (hd : C ≤ B' ∨ C' ≤ B) : OPt w' B C v ps := by obtain ⟨ds, h⟩ := h; exact ⟨ds, h.kept hc hd⟩
theorem OPt.mono (h : OPt w B C v ps) (h1 : B' ≤ B) (h2 : C ≤ C') : OPt w B' C' v ps := by obtain ⟨ds, h⟩ := h; exact ⟨ds, h.mono h1 h2⟩
theorem OPt.rd (h : OPt w B C v ps) : RdP w v ps := by obtain ⟨ds, h⟩ := h; exact h.rdP
/-- read as long as the blocks from B to C stay -/
def RdW (w : World) (B C : Nat) (v : Value) (ps : List PV) : Prop := C ≤ w.heap.size ∧ ∀ w' : World, (∀ k, B ≤ k → k < C → w'.heap[k]? = w.heap[k]?) → RdP w' v ps
theorem RdW.rd (h : RdW w B C v ps) : RdP w v ps := h.2 w fun _ _ _ => rfl
theorem RdW.below (h : RdW w B C v ps) (hb : Below w.heap.size w w') : RdW w' B C v ps :=
  ⟨Nat.le_trans h.1 hb.size, fun x hx => h.2 x fun k h1 h2 => (hx k h1 h2).trans (hb.block k (Nat.lt_of_lt_of_le h2 h.1))⟩
theorem RdW.kept (h : RdW w B C v ps) (hc : Chg B' C' w w') (hd : C ≤ B' ∨ C' ≤ B) : RdW w' B C v ps :=
  ⟨Nat.le_trans h.1 hc.size, fun x hx => h.2 x fun k h1 h2 => (hx k h1 h2).trans (hc.block k (Nat.lt_of_lt_of_le h2 h.1) (by omega))⟩
end
theorem SLs.agree {w w' : World} {B : Nat} {v : Value} {G : List (PK × Nat)} (h : SLs ePc tPt w B v G) (hw : ∀ k, B ≤ k → k < w.heap.size → w'.heap[k]? = w.heap[k]?) : SLs ePc tPt w' B v G := by
  obtain ⟨css, h1, h2⟩ := h
  have ho : OwnK w B tPt 3 v css := h1
  refine ⟨css, ho.of_block fun b hb => hw b (ho.ge b hb) (ho.lt b hb), h2.1, fun i c x hc hx => ?_⟩
  obtain ⟨u, s, rfl, hu0, hs0⟩ := h2.2 i c x hc hx
  have hu : LA w B u (x.1.1.map up) := hu0
  have hs : OwnInts w B tI s (up x.1.2) := hs0
  obtain ⟨vs, a1, a2, a3⟩ := hu
  refine ⟨u, s, rfl, ?_, ?_⟩
  · exact (show LA w' B u (x.1.1.map up) from ⟨vs, a1.of_block fun b hb => hw b (a1.ge b hb) (a1.lt b hb), ⟨a2.1, fun k z zs hz hzs => ⟨(a2.2 k z zs hz hzs).1.of_block fun b hb => hw b ((a2.2 k z zs hz hzs).1.ge b hb) ((a2.2 k z zs hz hzs).1.lt b hb), (a2.2 k z zs hz hzs).2⟩⟩, a3⟩)
  · exact (show OwnInts w' B tI s (up x.1.2) from ⟨hs.1.of_block fun b hb => hw b (hs.1.ge b hb) (hs.1.lt b hb), hs.2⟩)
theorem SLs.rdW {w : World} {B : Nat} {v : Value} {G : List (PK × Nat)} (h : SLs ePc tPt w B v G) : RdW w B w.heap.size v (G.map pv) :=
  ⟨Nat.le_refl _, fun w' hw => (h.agree hw).rdP⟩
theorem mkP_sz (q : PV) : ptSz q = tot q.1.1 + q.1.2.length + 1 := rfl

set_option maxHeartbeats 4000000 in
theorem n_mark_parts (w : World) (B C : Nat) (v : Value) (ps : List PV) (k : Int) (ho : OPt w B C v ps) (hn : ptTot ps ≤ 1073741824) (h0 : 0 ≤ k) (h1 : k ≤ 1073741824) :
    Calls Try.prog 20 #[v, .int .i64 k] w fun e w' => e = .returned (.int .i64 (k + (ptTot ps : Nat))) ∧ OPt w' B C v (markP k ps) ∧ Chg B C w w' := by
  obtain ⟨ds, ho⟩ := ho
  obtain ⟨A, c, rfl, l1, l2⟩ := ho.open_
  have HO := Lib.hid ho
  clear ho
  go_enter Try.func20, Try.ntmps20
  go_wp2_with fail
  go_loopw [1, 5] (fun x i wr => ∃ j : Nat, j ≤ ps.length ∧ i = .int .i64 j ∧ x = .int .i64 (k + (ptTot (ps.take j) : Nat)) ∧ OPD wr B C (.slice A ps.length c) ds (markPT k ps j) ∧ Chg B C w wr) (fun _ i _ => ps.length - (intOf i).toNat)
  case atStart => exact ⟨0, Nat.zero_le _, rfl, by simp [ptTot], by rw [markPT_zero]; exact HO.out, Chg.refl _ _ _⟩
  case round =>
    obtain ⟨j, hj, rfl, rfl, hown, hch⟩ := hrel
    clear HO
    have HO := Lib.hid hown
    have HC := Lib.hid hch
    clear hown hch
    by_cases hlt : j < ps.length
    · obtain ⟨q, hq0⟩ : ∃ q, ps[j]? = some q := ⟨_, List.getElem?_eq_getElem hlt⟩
      have hq := markPT_get (k := k) hq0
      obtain ⟨d, hd⟩ := HO.out.dat hq
      obtain ⟨a1, a2, a3⟩ := HO.out.at_ j d q hd hq
      obtain ⟨b1, b2, b3⟩ := a3.split
      have hz := HO.out.zat hd hq
      obtain ⟨g, cap, he, k0⟩ := OwnK.cell (k := 3) HO.out.own hz (j := 0) rfl
      simp only [Value.slice.injEq] at he
      obtain ⟨rfl, -, -⟩ := he
      rw [Nat.add_zero] at k0
      have k1 := OwnK.cellAt (k := 3) HO.out.own hz (j := 1) rfl
      have hle := ptTot_take_le ps (j + 1)
      rw [ptTot_take_succ hq0, mkP_sz] at hle
      have HS := Lib.hid (show ptTot (ps.take (j + 1)) = ptTot (ps.take j) + (tot q.1.1 + q.1.2.length + 1) from ptTot_take_succ hq0)
      have HSET := Lib.hid (markPT_set (k := k) hq0)
      have HD := Lib.hid hd
      have HQ := Lib.hid hq
      have HZ := Lib.hid hz
      have H1 := Lib.hid a1
      have H2 := Lib.hid b1
      have H3 := Lib.hid b2
      have H4 := Lib.hid b3
      have hji : (j : Int) < (ps.length : Int) := by omega
      obtain ⟨va, hva⟩ : ∃ va, va = d.1 := ⟨_, rfl⟩
      obtain ⟨sb, hsb⟩ : ∃ sb, sb = d.2.2 := ⟨_, rfl⟩
      replace k0 : wr.cell? ⟨g, j * 3, none⟩ = some va := by rw [hva]; exact k0
      replace k1 : wr.cell? ⟨g, j * 3 + 1, none⟩ = some sb := by rw [hsb]; exact k1
      have HVA := Lib.hid hva
      have HSB := Lib.hid hsb
      clear hq0 hq hd hz a1 a2 a3 b1 b2 b3 hva hsb
      obtain ⟨m, hm⟩ : ∃ m, m = ptTot (ps.take j) := ⟨_, rfl⟩
      obtain ⟨tq, htq⟩ : ∃ tq, tq = tot q.1.1 := ⟨_, rfl⟩
      obtain ⟨lq, hlq⟩ : ∃ lq, lq = q.1.2.length := ⟨_, rfl⟩
      rw [← hm, ← htq, ← hlq] at hle HS
      rw [← hm] at HSET ⊢
      have HTQ := Lib.hid (And.intro htq hlq)
      clear hm htq hlq
      have HM1 := Lib.hid (show Calls Try.prog 11 #[va, .int .i64 (k + (m : Int))] wr fun e w' => e = .returned (.int .i64 (k + (m : Int) + (tq : Int))) ∧ RowsOwn w' B C tI d.2.1 (markRows (k + (m : Int)) q.1.1) ∧ Chg B C wr w' ∧ Far d.2.1 wr w' from by
        rw [HVA.out]
        refine (l_markInt64SS wr B C d.1 d.2.1 q.1.1 (k + (m : Int)) H1.out H2.out (by rw [← HTQ.out.1]; omega) (by omega) (by omega)).mono ?_
        rintro e w' ⟨rfl, -, h2, h3, h4⟩
        exact ⟨by rw [HTQ.out.1], h2, h3, h4⟩)
      go_upto_region 5 with (go_at_call 11; go_loud (refine HM1.out.mono ?_; rintro e w1 ⟨rfl, hr1, hc1, hf1⟩; have HR1 := Lib.hid hr1; have HC1 := Lib.hid hc1; have HF1 := Lib.hid hf1; clear hr1 hc1 hf1))
      have o1 := ownK_far (k := 3) HO.out.own H2.out HF1.out (by decide)
      replace k1 : w1.cell? ⟨g, j * 3 + 1, none⟩ = some sb := by rw [HSB.out]; exact OwnK.cellAt (k := 3) o1 HZ.out (j := 1) rfl
      have s1 : OI w1 B C tI d.2.2 q.1.2 := HF1.out.kept H3.out H4.out
      have HM2 := Lib.hid (show Calls Try.prog 19 #[sb, .int .i64 (k + (m : Int) + (tq : Int))] w1 fun e w' => e = .returned (.int .i64 (k + (m : Int) + (tq : Int) + (lq : Int))) ∧ OwnInts w' B tI d.2.2 (marks (k + (m : Int) + (tq : Int)) lq) ∧ w1.grownBy w' d.2.2.ownBlock from by
        rw [HSB.out]
        refine (l_markInt64S w1 B d.2.2 q.1.2 (k + (m : Int) + (tq : Int)) s1.1 (by rw [← HTQ.out.2]; omega) (by omega) (by omega)).mono ?_
        rintro e w' ⟨rfl, h2, h3, -⟩
        exact ⟨by rw [HTQ.out.2], by rw [HTQ.out.2]; exact h2, h3⟩)
      have HS1 := Lib.hid s1
      clear o1 s1 k0 HM1
      go_upto_region 6 with (go_at_call 19; go_loud (refine HM2.out.mono ?_; rintro e w2 ⟨rfl, ho2, hg2⟩; have HO2 := Lib.hid ho2; have HG2 := Lib.hid hg2; clear ho2 hg2))
      obtain ⟨r1, r2, r3, r4, r5⟩ := HO.out.round HD.out HQ.out HR1.out HF1.out HO2.out HG2.out (k + (m : Int) + (tq : Int) + (lq : Int))
      have HR5 := Lib.hid r5
      have HCH := Lib.hid (((HC.out.trans HC1.out).trans (Chg.of_grown HG2.out fun b hb => ⟨HS1.out.1.1.ge b hb, HS1.out.2 b hb⟩)).setCell (p := ⟨g, j * 3 + 2, none⟩) r3 r4 (.int .i64 (k + (m : Int) + (tq : Int) + (lq : Int))))
      clear r3 r4 r5 k1 HM2
      go_wp2_with fail
      go_roundw
      case rel =>
        refine ⟨j + 1, by omega, by go_num, by rw [HS.out]; push_cast; go_num, ?_, HCH.out⟩
        rw [← HSET.out]
        have h := HR5.out
        have e : mkP (k + (m : Int)) q = ((markRows (k + (m : Int)) q.1.1, marks (k + (m : Int) + (tq : Int)) lq), k + (m : Int) + (tq : Int) + (lq : Int)) := by
          unfold mkP
          rw [← HTQ.out.1, ← HTQ.out.2]
        rw [e]
        exact h
      case measure => simp [intOf]; omega
    · have : j = ps.length := by omega
      subst this
      go_wp2_with fail
      go_ret
      refine ⟨ret_int (by rw [List.take_length]), ⟨ds, ?_⟩, HC.out⟩
      rw [← markPT_all]
      exact HO.out

set_option maxHeartbeats 4000000 in
theorem n_held_parts (w : World) (v : Value) (ps : List PV) (ho : RdP w v (markP 1 ps)) (hn : ptTot ps ≤ 1073741824) :
    Calls Try.prog 21 #[v, .int .i64 1] w fun e w' => e = .returned (.int .i64 (1 + (ptTot ps : Nat))) ∧ Below w.heap.size w w' := by
  obtain ⟨A, c, rfl, l1, h3⟩ := ho
  rw [markP_len] at l1 ⊢
  have H3 := Lib.hid h3
  clear h3
  go_enter Try.func21, Try.ntmps21
  go_wp2_with fail
  go_loop [1, 5] (fun x i => ∃ j : Nat, j ≤ ps.length ∧ i = .int .i64 j ∧ x = .int .i64 (1 + (ptTot (ps.take j) : Nat))) (fun _ i => ps.length - (intOf i).toNat)
  case atStart => exact ⟨0, Nat.zero_le _, rfl, by simp [ptTot]⟩
  case round =>
    obtain ⟨j, hj, rfl, rfl⟩ := hrel
    by_cases hlt : j < ps.length
    · obtain ⟨q, hq0⟩ : ∃ q, ps[j]? = some q := ⟨_, List.getElem?_eq_getElem hlt⟩
      obtain ⟨g, p, s, rfl, k0, k1, k2, hp, hs⟩ := H3.out j _ (markP_get 1 ps j q hq0)
      have hle := ptTot_take_le ps (j + 1)
      rw [ptTot_take_succ hq0, mkP_sz] at hle
      have HS := Lib.hid (show ptTot (ps.take (j + 1)) = ptTot (ps.take j) + (tot q.1.1 + q.1.2.length + 1) from ptTot_take_succ hq0)
      have HP := Lib.hid (show Rows w p (markRows (1 + (ptTot (ps.take j) : Nat)) q.1.1) from hp)
      have HSS := Lib.hid (show Ints w s (marks (1 + (ptTot (ps.take j) : Nat) + (tot q.1.1 : Nat)) q.1.2.length) from hs)
      replace k2 : w.cell? ⟨g, j * 3 + 2, none⟩ = some (.int .i64 (1 + (ptTot (ps.take j) : Nat) + (tot q.1.1 : Nat) + (q.1.2.length : Int))) := k2
      have hji : (j : Int) < (ps.length : Int) := by omega
      clear hq0 hp hs
      generalize ptTot (ps.take j) = m at *
      have HH1 := Lib.hid (l_heldInt64SS w p q.1.1 (1 + (m : Int)) HP.out (by omega) (by omega) (by omega))
      have HH2 := Lib.hid (l_heldInt64S w s q.1.2.length (1 + (m : Int) + (tot q.1.1 : Nat)) HSS.out (by omega) (by omega) (by omega))
      generalize tot q.1.1 = tq at *
      generalize q.1.2.length = lq at *
      have hk0 : 0 ≤ 1 + (m : Int) + (tq : Int) := by omega
      have hk1 : 0 ≤ 1 + (m : Int) + (tq : Int) + (lq : Int) := by omega
      go_wp2_with (first
        | (go_at_call 39; refine HH1.out.mono ?_; rintro e w1 ⟨rfl, rfl⟩)
        | (go_at_call 40; refine HH2.out.mono ?_; rintro e w1 ⟨rfl, rfl⟩))
      go_round
      case rel => exact ⟨j + 1, by omega, by go_num, by rw [HS.out]; push_cast; go_num⟩
      case measure => simp [intOf]; omega
    · have : j = ps.length := by omega
      subst this
      go_wp2_with fail
      go_ret
      exact ⟨by first | rfl | exact ret_int (by rw [List.take_length]), Below.refl _ _⟩
end Go.Proofs.Ytofabikjjkapmaa

