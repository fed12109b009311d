/- Plain: owned lists of monomials (any capacity), and lists of them whose parts lie in intervals apart. No walk. | The laws' marking and holding of fields, with the values: plain part and walks. | The laws' holding of fields, walked. | The laws' helper: equality of monomials. | The laws' helper: equality of lists of monomials. | Walk: IsField of the reference. -/
import Derived.Test.YtofabikjjkapmaaLf3
import Derived.Test.YtofabikjjkapmaaLf4
import Derived.Test.YtofabikjjkapmaaLf6
import Derived.Test.YtofabikjjkapmaaLf2
import Derived.Deep.RegionLaw
set_option maxRecDepth 100000
set_option linter.unusedVariables false
set_option linter.unusedSimpArgs false
namespace Go.Proofs.Ytofabikjjkapmaa
open Go.RowKit Go.Sort Go.Shelf

def cellM (u : Value) (m : Mono) : List Value := [.int .i64 m.1, u]
/-- the same in the blocks from B to C -/
def Same (B C : Nat) (w w' : World) : Prop := ∀ k, B ≤ k → k < C → w'.heap[k]? = w.heap[k]?
theorem Same.mono {B C B' C' : Nat} {w w' : World} (h : Same B C w w') (h1 : B ≤ B') (h2 : C' ≤ C) : Same B' C' w w' := fun k a b => h k (by omega) (by omega)
theorem Same.of_below {B C : Nat} {w w' : World} (h : Below w.heap.size w w') (hC : C ≤ w.heap.size) : Same B C w w' := fun k _ hk => h.block k (by omega)
theorem Same.of_chg {B C B' C' : Nat} {w w' : World} (h : Chg B' C' w w') (hC : C ≤ w.heap.size) (hd : C ≤ B' ∨ C' ≤ B) : Same B C w w' := fun k a b => h.block k (by omega) (by omega)

/-- a list of monomials of one's own -/
structure OMd (w : World) (B C : Nat) (v : Value) (us : List Value) (ms : List Mono) : Prop where
  own : OwnK w B tM 2 v (List.zipWith cellM us ms)
  lt : ∀ b, v.ownBlock = some b → b < C
  rows : RowsOwn w B C tI us (ms.map (·.2))
  in_ : ∀ m ∈ ms, In64 m.1
section
variable {w w' : World} {B C B' C' : Nat} {v : Value} {us : List Value} {ms : List Mono}
theorem OMd.len (h : OMd w B C v us ms) : us.length = ms.length := by have := h.rows.1; rwa [List.length_map] at this
theorem OMd.agree (h : OMd w B C v us ms) (hw : Same B C w w') : OMd w' B C v us ms :=
  ⟨h.own.of_block fun b hb => hw b (h.own.ge b hb) (h.lt b hb), h.lt, ⟨h.rows.1, fun k u zs hu hz => (by
    obtain ⟨a, b⟩ := h.rows.2.1 k u zs hu hz
    exact (show OI w' B C tI u zs from ⟨⟨a.1.of_block fun b' hb => hw b' (a.1.ge b' hb) (b b' hb), a.2⟩, b⟩)), h.rows.2.2⟩, h.in_⟩
theorem OMd.mono (h : OMd w B C v us ms) (h1 : B' ≤ B) (h2 : C ≤ C') : OMd w B' C' v us ms := ⟨h.own.mono h1, fun b hb => Nat.lt_of_lt_of_le (h.lt b hb) h2, h.rows.mono h1 h2, h.in_⟩
theorem OMd.zlen (h : OMd w B C v us ms) : (List.zipWith cellM us ms).length = ms.length := by rw [List.length_zipWith, h.len, Nat.min_self]
theorem OMd.zat (h : OMd w B C v us ms) {i : Nat} {u : Value} {m : Mono} (hu : us[i]? = some u) (hm : ms[i]? = some m) : (List.zipWith cellM us ms)[i]? = some (cellM u m) := by rw [List.getElem?_zipWith, hu, hm]
theorem OMd.open_ (h : OMd w B C v us ms) : ∃ A c, v = .slice A ms.length c ∧ ms.length ≤ c ∧ c ≤ 9223372036854775807 := by
  have := OwnK.open_ (k := 2) h.own
  rwa [h.zlen] at this
theorem OMd.dat (h : OMd w B C v us ms) {i : Nat} {m : Mono} (hm : ms[i]? = some m) : ∃ u, us[i]? = some u := ⟨_, List.getElem?_eq_getElem (by rw [h.len]; exact (List.getElem?_eq_some_iff.1 hm).1)⟩
theorem OMd.monos (h : OMd w B C v us ms) : Monos w v ms := by
  obtain ⟨A, c, rfl, h1, h2⟩ := h.open_
  refine ⟨A, c, rfl, h1, by simpa [maxLen] using h2, fun k m hm => ?_⟩
  obtain ⟨u, hu⟩ := h.dat hm
  obtain ⟨g, cap, e, k0⟩ := OwnK.cell (k := 2) h.own (h.zat hu hm) (j := 0) rfl
  simp only [Value.slice.injEq] at e
  obtain ⟨rfl, -, rfl⟩ := e
  have hown := h.own
  have k1 := OwnK.cellAt (k := 2) hown (h.zat hu hm) (j := 1) rfl
  have hr := (h.rows.2.1 k u m.2 hu (by simp [hm])).ints
  exact ⟨g, 0, u, rfl, h.in_ m (List.mem_of_getElem? hm), hr, by rw [Nat.zero_add]; exact k0, by rw [Nat.zero_add]; exact k1⟩
end
def OMo (w : World) (B C : Nat) (v : Value) (ms : List Mono) : Prop := ∃ us, OMd w B C v us ms
section
variable {w w' : World} {B C B' C' : Nat} {v : Value} {ms : List Mono}
theorem OMo.agree (h : OMo w B C v ms) (hw : Same B C w w') : OMo w' B C v ms := by obtain ⟨us, h⟩ := h; exact ⟨us, h.agree hw⟩
theorem OMo.mono (h : OMo w B C v ms) (h1 : B' ≤ B) (h2 : C ≤ C') : OMo w B' C' v ms := by obtain ⟨us, h⟩ := h; exact ⟨us, h.mono h1 h2⟩
theorem OMo.monos (h : OMo w B C v ms) : Monos w v ms := by obtain ⟨us, h⟩ := h; exact h.monos
theorem OMo.ge (h : OMo w B C v ms) : ∀ b, v.ownBlock = some b → B ≤ b := by obtain ⟨us, h⟩ := h; exact h.own.ge
theorem OMo.lt (h : OMo w B C v ms) : ∀ b, v.ownBlock = some b → b < C := by obtain ⟨us, h⟩ := h; exact h.lt
end

/-- a list of such lists, each in an interval of its own -/
structure PFd (w : World) (B C : Nat) (u : Value) (vs : List Value) (ivs : List (Nat × Nat)) (pss : List (List Mono)) : Prop where
  own : Own w B tMs u vs
  lt : ∀ b, u.ownBlock = some b → b < C
  le : B ≤ C
  len : vs.length = pss.length
  ilen : ivs.length = pss.length
  at_ : ∀ (i : Nat) (v : Value) (ms : List Mono) (iv : Nat × Nat), vs[i]? = some v → pss[i]? = some ms → ivs[i]? = some iv → B ≤ iv.1 ∧ iv.2 ≤ C ∧ OMo w iv.1 iv.2 v ms
  out : ∀ (i : Nat) (iv : Nat × Nat) (b : Nat), ivs[i]? = some iv → u.ownBlock = some b → b < iv.1 ∨ iv.2 ≤ b
  ord : ∀ (i j : Nat) (iv iv' : Nat × Nat), i < j → ivs[i]? = some iv → ivs[j]? = some iv' → iv.2 ≤ iv'.1
section
variable {w w' : World} {B C B' C' : Nat} {u : Value} {vs : List Value} {ivs : List (Nat × Nat)} {pss : List (List Mono)}
theorem PFd.agree (h : PFd w B C u vs ivs pss) (hw : Same B C w w') : PFd w' B C u vs ivs pss :=
  { h with
    own := h.own.of_block fun b hb => hw b (h.own.ge b hb) (h.lt b hb)
    at_ := fun i v ms iv hv hm hi => by
      obtain ⟨a, b, c⟩ := h.at_ i v ms iv hv hm hi
      exact ⟨a, b, c.agree (hw.mono a b)⟩ }
theorem PFd.mono (h : PFd w B C u vs ivs pss) (h1 : B' ≤ B) (h2 : C ≤ C') : PFd w B' C' u vs ivs pss :=
  { h with
    own := h.own.mono h1
    lt := fun b hb => Nat.lt_of_lt_of_le (h.lt b hb) h2
    le := by have := h.le; omega
    at_ := fun i v ms iv hv hm hi => by
      obtain ⟨a, b, c⟩ := h.at_ i v ms iv hv hm hi
      exact ⟨by omega, by omega, c⟩ }
theorem PFd.nil (w : World) (B : Nat) : PFd w B B (.slice none 0 0) [] [] [] where
  own := Own.nil _ _ _
  lt b hb := by simp [Value.ownBlock] at hb
  le := Nat.le_refl _
  len := rfl
  ilen := rfl
  at_ i v ms iv hv := by simp at hv
  out i iv b hi := by simp at hi
  ord i j iv iv' hij hi := by simp at hi
theorem PFd.mrows (h : PFd w B C u vs ivs pss) : MRows w u pss := by
  refine ⟨vs, h.own.cells, h.len, fun k v ms hv hm => ?_⟩
  have hk := (List.getElem?_eq_some_iff.1 hm).1
  obtain ⟨-, -, c⟩ := h.at_ k v ms _ hv hm (List.getElem?_eq_getElem (by rw [h.ilen]; exact hk))
  exact c.monos
/-- one part more: made by a call, put behind the others by an append -/
theorem PFd.step {W W5 W6 W7 : World} {v u' : Value} {ms : List Mono} (h : PFd W B C u vs ivs pss) (hC : C ≤ W.heap.size) (h5 : Below W.heap.size W W5) (hm : OMo W5 W.heap.size W5.heap.size v ms) (h6 : Below W5.heap.size W5 W6)
    (hn : Own W7 B tMs u' (vs ++ [v])) (hg : Grow W6 W7 u u') : PFd W7 B W7.heap.size u' (vs ++ [v]) (ivs ++ [(W.heap.size, W5.heap.size)]) (pss ++ [ms]) := by
  have s5 := h5.size
  have s6 := h6.size
  have s7 := hg.1.size
  have hBC := h.le
  have hnew : ∀ b, u'.ownBlock = some b → u.ownBlock = some b ∨ W6.heap.size ≤ b := fun b hb => by
    rcases hg.2 with e | ⟨g, e, hge⟩
    · exact .inl (by rw [← e]; exact hb)
    · rw [e] at hb; injection hb with hb; subst hb; exact .inr hge
  refine ⟨hn, fun b hb => hn.lt b hb, by omega, by simp [h.len], by simp [h.ilen], fun i x ns iv hx hns hiv => ?_, fun i iv b hiv hb => ?_, fun i j iv iv' hij hi hj => ?_⟩
  · have hi := (List.getElem?_eq_some_iff.1 hx).1
    rw [List.length_append, List.length_singleton] at hi
    by_cases hl : i < vs.length
    · rw [List.getElem?_append_left hl] at hx
      rw [List.getElem?_append_left (by rw [← h.len]; exact hl)] at hns
      rw [List.getElem?_append_left (by rw [h.ilen, ← h.len]; exact hl)] at hiv
      obtain ⟨a, b, c⟩ := h.at_ i x ns iv hx hns hiv
      refine ⟨a, by omega, c.agree fun k h1 h2 => ?_⟩
      rw [hg.1.block k (by omega) (fun e => by rcases h.out i iv k hiv e.symm with h3 | h3 <;> omega), h6.block k (by omega), h5.block k (by omega)]
    · have : i = vs.length := by omega
      subst this
      rw [List.getElem?_append_right (Nat.le_refl _), Nat.sub_self] at hx
      rw [List.getElem?_append_right (by rw [h.len]; exact Nat.le_refl _), h.len, Nat.sub_self] at hns
      rw [List.getElem?_append_right (by rw [h.len, h.ilen]; exact Nat.le_refl _), h.ilen, h.len, Nat.sub_self] at hiv
      simp only [List.getElem?_cons_zero, Option.some.injEq] at hx hns hiv
      subst hx; subst hns; subst hiv
      refine ⟨by show B ≤ W.heap.size; omega, by show W5.heap.size ≤ W7.heap.size; omega, hm.agree fun k h1 h2 => ?_⟩
      rw [hg.1.block k (by have : k < W5.heap.size := h2; omega) (fun e => by have h3 := h.lt k e.symm; have : W.heap.size ≤ k := h1; omega), h6.block k h2]
  · by_cases hl : i < ivs.length
    · rw [List.getElem?_append_left hl] at hiv
      have hx : vs[i]? = some (vs[i]'(by rw [h.len, ← h.ilen]; exact hl)) := List.getElem?_eq_getElem _
      have hns : pss[i]? = some (pss[i]'(by rw [← h.ilen]; exact hl)) := List.getElem?_eq_getElem _
      obtain ⟨a, b', -⟩ := h.at_ i _ _ iv hx hns hiv
      rcases hnew b hb with e | e
      · exact h.out i iv b hiv e
      · right; omega
    · rw [List.getElem?_append_right (by omega)] at hiv
      have : i - ivs.length = 0 := by
        have := (List.getElem?_eq_some_iff.1 hiv).1
        simpa using this
      rw [this] at hiv
      simp only [List.getElem?_cons_zero, Option.some.injEq] at hiv
      subst hiv
      rcases hnew b hb with e | e
      · left; have := h.lt b e; show b < W.heap.size; omega
      · right; show W5.heap.size ≤ b; omega
  · by_cases hl : j < ivs.length
    · rw [List.getElem?_append_left hl] at hj
      rw [List.getElem?_append_left (by omega)] at hi
      exact h.ord i j iv iv' hij hi hj
    · rw [List.getElem?_append_right (by omega)] at hj
      have hj0 := (List.getElem?_eq_some_iff.1 hj).1
      simp only [List.length_singleton] at hj0
      have e0 : j - ivs.length = 0 := by omega
      rw [e0] at hj
      simp only [List.getElem?_cons_zero, Option.some.injEq] at hj
      subst hj
      have hl' : i < ivs.length := by omega
      rw [List.getElem?_append_left hl'] at hi
      have hx : vs[i]? = some (vs[i]'(by rw [h.len, ← h.ilen]; exact hl')) := List.getElem?_eq_getElem _
      have hns : pss[i]? = some (pss[i]'(by rw [← h.ilen]; exact hl')) := List.getElem?_eq_getElem _
      obtain ⟨a, b, -⟩ := h.at_ i _ _ iv hx hns hi
      show iv.2 ≤ W.heap.size
      omega
end
def PF (w : World) (B C : Nat) (u : Value) (pss : List (List Mono)) : Prop := ∃ vs ivs, PFd w B C u vs ivs pss
section
variable {w w' : World} {B C B' C' : Nat} {u : Value} {pss : List (List Mono)}
theorem PF.agree (h : PF w B C u pss) (hw : Same B C w w') : PF w' B C u pss := by obtain ⟨vs, ivs, h⟩ := h; exact ⟨vs, ivs, h.agree hw⟩
theorem PF.mono (h : PF w B C u pss) (h1 : B' ≤ B) (h2 : C ≤ C') : PF w B' C' u pss := by obtain ⟨vs, ivs, h⟩ := h; exact ⟨vs, ivs, h.mono h1 h2⟩
theorem PF.mrows (h : PF w B C u pss) : MRows w u pss := by obtain ⟨vs, ivs, h⟩ := h; exact h.mrows
end
end Go.Proofs.Ytofabikjjkapmaa

set_option maxRecDepth 100000
set_option linter.unusedVariables false
set_option linter.unusedSimpArgs false
namespace Go.Proofs.Ytofabikjjkapmaa
open Go.RowKit Go.Sort Go.Shelf

section
variable {α : Type} (sz : α → Nat) (mk : Int → α → α)
/-- marked one behind the other -/
def gTot : List α → Nat
  | [] => 0
  | q :: r => sz q + gTot r
def markG : Int → List α → List α
  | _, [] => []
  | k, q :: r => mk k q :: markG (k + (sz q : Nat)) r
theorem markG_len : ∀ (k : Int) (ps : List α), (markG sz mk k ps).length = ps.length
  | _, [] => rfl
  | k, q :: r => by simp [markG, markG_len _ r]
theorem markG_get : ∀ (k : Int) (ps : List α) (j : Nat) (q : α), ps[j]? = some q → (markG sz mk k ps)[j]? = some (mk (k + (gTot sz (ps.take j) : Nat)) q)
  | _, [], j, q, h => by simp at h
  | k, y :: r, 0, q, h => by simp at h; subst h; simp [markG, gTot]
  | k, y :: r, j + 1, q, h => by
    simp only [List.getElem?_cons_succ] at h
    simp only [markG, List.getElem?_cons_succ, List.take_succ_cons]
    rw [markG_get _ r j q h, gTot]
    congr 2
    push_cast
    omega
def markGT (k : Int) (ps : List α) (j : Nat) : List α := (markG sz mk k ps).take j ++ ps.drop j
theorem markGT_zero (k : Int) (ps : List α) : markGT sz mk k ps 0 = ps := by simp [markGT]
theorem markGT_all (k : Int) (ps : List α) : markGT sz mk k ps ps.length = markG sz mk k ps := by
  unfold markGT
  rw [List.drop_length, List.append_nil, List.take_of_length_le (by rw [markG_len]; exact Nat.le_refl _)]
variable {sz mk}
theorem markGT_get {k : Int} {ps : List α} {j : Nat} {q : α} (h : ps[j]? = some q) : (markGT sz mk k ps j)[j]? = some q := by
  have hj := (List.getElem?_eq_some_iff.1 h).1
  unfold markGT
  rw [List.getElem?_append_right (by simp [markG_len]; omega)]
  simp [markG_len, Nat.min_eq_left (Nat.le_of_lt hj), h]
theorem markGT_len (k : Int) (ps : List α) (j : Nat) : (markGT sz mk k ps j).length = ps.length := by
  unfold markGT
  rw [List.length_append, List.length_take, markG_len, List.length_drop]
  omega
theorem markGT_set {k : Int} {ps : List α} {j : Nat} {q : α} (h : ps[j]? = some q) : (markGT sz mk k ps j).set j (mk (k + (gTot sz (ps.take j) : Nat)) q) = markGT sz mk k ps (j + 1) := by
  have hj := (List.getElem?_eq_some_iff.1 h).1
  have hm := markG_get sz mk k ps j q h
  unfold markGT
  have hl : ((markG sz mk k ps).take j).length = j := by simp [markG_len]; omega
  rw [List.set_append_right _ _ (by omega), hl, Nat.sub_self, List.take_add_one, hm]
  rw [List.drop_eq_getElem_cons hj]
  simp only [List.set_cons_zero, List.append_assoc, Option.toList, List.cons_append, List.nil_append]
end
def szM (m : Mono) : Nat := 1 + m.2.length
def mkM (k : Int) (m : Mono) : Mono := (k, marks (k + 1) m.2.length)
def markM : Int → List Mono → List Mono := markG szM mkM
def markF : Int → List (List Mono) → List (List Mono) := markG msTot markM
theorem gTot_ms : ∀ ms : List Mono, gTot szM ms = msTot ms
  | [] => rfl
  | m :: r => by simp [gTot, msTot, gTot_ms r, szM]
theorem gTot_f : ∀ pss : List (List Mono), gTot msTot pss = fTot pss
  | [] => rfl
  | m :: r => by simp [gTot, fTot, gTot_f r]

theorem OMd.mark {w : World} {B C g n cap j : Nat} {us : List Value} {ms : List Mono} {u : Value} {m : Mono} (h : OMd w B C (.slice (some ⟨g, 0, none⟩) n cap) us ms) (hu : us[j]? = some u) (hm : ms[j]? = some m) (k : Int) (hk : In64 k) :
    (∃ x, w.cell? ⟨g, j * 2, none⟩ = some x) ∧ w.frozen? ⟨g, j * 2, none⟩ = false ∧ (w.setCell ⟨g, j * 2, none⟩ (.int .i64 k)).cell? ⟨g, j * 2 + 1, none⟩ = some u ∧ OI (w.setCell ⟨g, j * 2, none⟩ (.int .i64 k)) B C tI u m.2 ∧ B ≤ g ∧ g < C ∧
    ∀ (w2 : World) (P' : List Int), (w.setCell ⟨g, j * 2, none⟩ (.int .i64 k)).grownBy w2 u.ownBlock → OwnInts w2 B tI u P' → OMd w2 B C (.slice (some ⟨g, 0, none⟩) n cap) us (ms.set j (k, P')) := by
  have hz := h.zat hu hm
  have hown := h.own
  have k0 := OwnK.cellAt (k := 2) hown hz (j := 0) rfl
  obtain ⟨-, hfz, -, hst, hgt⟩ := OwnK.storeAt (k := 2) hown hz (j := 0) (by omega) (.int .i64 k)
  simp only [Nat.add_zero] at k0 hfz hst hgt
  have hz1 : ((List.zipWith cellM us ms).set j ((cellM u m).set 0 (.int .i64 k)))[j]? = some ((cellM u m).set 0 (.int .i64 k)) := List.getElem?_set_self (List.getElem?_eq_some_iff.1 hz).1
  have k1 := OwnK.cellAt (k := 2) hst hz1 (j := 1) rfl
  have hbt : BT w tM (.slice (some ⟨g, 0, none⟩) n cap) := OwnK.bt hown
  have hr1 : RowsOwn (w.setCell ⟨g, j * 2, none⟩ (.int .i64 k)) B C tI us (ms.map (·.2)) := h.rows.other hgt fun i x hx => by
    have hzz : (ms.map (·.2))[i]? = some ((ms.map (·.2))[i]'(by rw [← h.rows.1]; exact (List.getElem?_eq_some_iff.1 hx).1)) := List.getElem?_eq_getElem _
    exact ((h.rows.2.1 i x _ hx hzz).1.1.bt).ne hbt (by decide)
  have hoi := hr1.2.1 j u m.2 hu (by simp [hm])
  have hbt1 : BT _ tM (.slice (some ⟨g, 0, none⟩) n cap) := OwnK.bt hst
  refine ⟨⟨_, k0⟩, hfz, k1, hoi, OwnK.ge hown g rfl, h.lt g rfl, fun w2 P' hg2 ho2 => ⟨?_, h.lt, ?_, fun x hx => ?_⟩⟩
  · have h2 := OwnK.kept hst hg2 (hbt1.ne hoi.1.1.bt (by decide))
    rw [zipWith_set cellM us ms j u _ hu]
    exact h2
  · rw [List.map_set]
    exact hr1.set hu hg2 ho2
  · rcases List.mem_or_eq_of_mem_set hx with h1 | rfl
    · exact h.in_ x h1
    · exact hk

set_option maxHeartbeats 4000000 in
theorem n_mark_monos (w : World) (B C : Nat) (v : Value) (ms : List Mono) (k : Int) (ho : OMo w B C v ms) (hn : msTot ms ≤ 1073741824) (h0 : 0 ≤ k) (h1 : k ≤ 4294967296) :
    Calls Try.prog 49 #[v, .int .i64 k] w fun e w' => e = .returned (.int .i64 (k + (msTot ms : Nat))) ∧ OMo w' B C v (markM k ms) ∧ Chg B C w w' := by
  obtain ⟨us, ho⟩ := ho
  obtain ⟨A, c, rfl, l1, l2⟩ := ho.open_
  have HO := Lib.hid ho
  clear ho
  go_enter Try.func49, Try.ntmps49
  go_wp2_with fail
  go_loopw [1, 5] (fun x i wr => ∃ j : Nat, j ≤ ms.length ∧ i = .int .i64 j ∧ x = .int .i64 (k + (msTot (ms.take j) : Nat)) ∧ OMd wr B C (.slice A ms.length c) us (markGT szM mkM k ms j) ∧ Chg B C w wr) (fun _ i _ => ms.length - (intOf i).toNat)
  case atStart => exact ⟨0, Nat.zero_le _, rfl, by simp [msTot], by rw [markGT_zero]; exact HO.out, Chg.refl _ _ _⟩
  case round =>
    obtain ⟨j, hj, rfl, rfl, hown, hch⟩ := hrel
    clear HO
    have HO := Lib.hid hown
    have HC := Lib.hid hch
    clear hown hch
    by_cases hlt : j < ms.length
    · obtain ⟨m, hm0⟩ : ∃ m, ms[j]? = some m := ⟨_, List.getElem?_eq_getElem hlt⟩
      have hm := markGT_get (sz := szM) (mk := mkM) (k := k) hm0
      obtain ⟨u, hu⟩ := HO.out.dat hm
      obtain ⟨g, cap, he, -⟩ := OwnK.cell (k := 2) HO.out.own (HO.out.zat hu hm) (j := 0) rfl
      simp only [Value.slice.injEq] at he
      obtain ⟨rfl, -, -⟩ := he
      have hle := msTot_take_le ms (j + 1)
      rw [msTot_take_succ hm0] at hle
      have HS := Lib.hid (msTot_take_succ hm0)
      have HSET := Lib.hid (markGT_set (sz := szM) (mk := mkM) (k := k) hm0)
      rw [gTot_ms] at HSET
      have hji : (j : Int) < (ms.length : Int) := by omega
      have HM := Lib.hid hm
      have HU := Lib.hid hu
      clear hm0 hm hu
      generalize msTot (ms.take j) = t at hle HS HSET ⊢
      obtain ⟨⟨x0, c0⟩, c1, c2, c3, c4, c5, c6⟩ := HO.out.mark HU.out HM.out (k + (t : Int)) (by unfold In64; omega)
      have HOI := Lib.hid c3
      have HG := Lib.hid (And.intro c4 c5)
      have HNX := Lib.hid c6
      clear c3 c4 c5 c6
      have HMK := Lib.hid (l_markInt64S _ B u m.2 (k + (t : Int) + 1) HOI.out.1 (by omega) (by omega) (by omega))
      go_wp2_with (go_at_call 19; go_loud (refine HMK.out.mono ?_; rintro e w2 ⟨rfl, ho2, hg2, -⟩; have HO2 := Lib.hid ho2; have HG2 := Lib.hid hg2; clear ho2 hg2))
      have hnx := HNX.out w2 _ HG2.out HO2.out
      have hc1 := HC.out.setCell (p := ⟨g, j * 2, none⟩) HG.out.1 HG.out.2 (.int .i64 (k + (t : Int)))
      have hc2 := hc1.trans (Chg.of_grown HG2.out fun b hb => ⟨HOI.out.1.1.ge b hb, HOI.out.2 b hb⟩)
      go_roundw
      case rel =>
        refine ⟨j + 1, by omega, by go_num, by rw [HS.out]; push_cast; go_num, ?_, hc2⟩
        rw [← HSET.out]
        exact hnx
      case measure => simp [intOf]; omega
    · have : j = ms.length := by omega
      subst this
      go_wp2_with fail
      go_ret
      refine ⟨ret_int (by rw [List.take_length]), ⟨us, ?_⟩, HC.out⟩
      unfold markM
      rw [← markGT_all]
      exact HO.out
theorem PFd.mark {w w' : World} {B C j : Nat} {u v : Value} {vs : List Value} {ivs : List (Nat × Nat)} {pss : List (List Mono)} {ms ms' : List Mono} {iv : Nat × Nat} (h : PFd w B C u vs ivs pss) (hC : C ≤ w.heap.size) (hv : vs[j]? = some v) (hm : pss[j]? = some ms) (hi : ivs[j]? = some iv) (hc : Chg iv.1 iv.2 w w') (ho : OMo w' iv.1 iv.2 v ms') :
    PFd w' B C u vs ivs (pss.set j ms') := by
  obtain ⟨a1, a2, -⟩ := h.at_ j v ms iv hv hm hi
  refine ⟨h.own.of_block fun b hb => hc.block b (h.own.lt b hb) (h.out j iv b hi hb), h.lt, h.le, by rw [List.length_set]; exact h.len, by rw [List.length_set]; exact h.ilen, fun i v' ns iv' hv' hn' hi' => ?_, h.out, h.ord⟩
  by_cases hij : i = j
  · subst hij
    rw [hv] at hv'
    rw [hi] at hi'
    rw [List.getElem?_set_self (List.getElem?_eq_some_iff.1 hm).1] at hn'
    simp only [Option.some.injEq] at hv' hi' hn'
    subst hv'; subst hi'; subst hn'
    exact ⟨a1, a2, ho⟩
  · rw [List.getElem?_set_ne (fun e => hij e.symm)] at hn'
    obtain ⟨b1, b2, b3⟩ := h.at_ i v' ns iv' hv' hn' hi'
    refine ⟨b1, b2, b3.agree (Same.of_chg hc (by omega) ?_)⟩
    rcases Nat.lt_or_gt_of_ne hij with hlt | hlt
    · left; exact h.ord i j iv' iv hlt hi' hi
    · right; exact h.ord j i iv iv' hlt hi hi'

set_option maxHeartbeats 4000000 in
theorem n_mark_parts_f (w : World) (B C : Nat) (v : Value) (pss : List (List Mono)) (k : Int) (ho : PF w B C v pss) (hC : C ≤ w.heap.size) (hn : fTot pss ≤ 1073741824) (h0 : 0 ≤ k) (h1 : k ≤ 1073741824) :
    Calls Try.prog 30 #[v, .int .i64 k] w fun e w' => e = .returned (.int .i64 (k + (fTot pss : Nat))) ∧ PF w' B C v (markF k pss) ∧ Chg B C w w' := by
  obtain ⟨vs, ivs, ho⟩ := ho
  obtain ⟨A, c, rfl, l1, l2⟩ := ho.own.cells.open_
  have HL := Lib.hid ho.len
  rw [HL.out] at l1 ho ⊢
  have HO := Lib.hid ho
  clear ho
  go_enter Try.func30, Try.ntmps30
  go_wp2_with fail
  go_loopw [1, 5] (fun x i wr => ∃ j : Nat, j ≤ pss.length ∧ i = .int .i64 j ∧ x = .int .i64 (k + (fTot (pss.take j) : Nat)) ∧ PFd wr B C (.slice A pss.length c) vs ivs (markGT msTot markM k pss j) ∧ Chg B C w wr) (fun _ i _ => pss.length - (intOf i).toNat)
  case atStart => exact ⟨0, Nat.zero_le _, rfl, by simp [fTot], by rw [markGT_zero]; exact HO.out, Chg.refl _ _ _⟩
  case round =>
    obtain ⟨j, hj, rfl, rfl, hown, hch⟩ := hrel
    clear HO
    have HO := Lib.hid hown
    have HC := Lib.hid hch
    clear hown hch
    by_cases hlt : j < pss.length
    · obtain ⟨ms, hm0⟩ : ∃ ms, pss[j]? = some ms := ⟨_, List.getElem?_eq_getElem hlt⟩
      have hm := markGT_get (sz := msTot) (mk := markM) (k := k) hm0
      have hv : vs[j]? = some (vs[j]'(by rw [HL.out]; exact hlt)) := List.getElem?_eq_getElem _
      have hi : ivs[j]? = some (ivs[j]'(by rw [HO.out.ilen, markGT_len]; exact hlt)) := List.getElem?_eq_getElem _
      generalize (vs[j]'(by rw [HL.out]; exact hlt)) = vj at hv
      generalize (ivs[j]'(by rw [HO.out.ilen, markGT_len]; exact hlt)) = iv at hi
      obtain ⟨a1, a2, a3⟩ := HO.out.at_ j vj ms iv hv hm hi
      obtain ⟨ad, n, c', e, hc0⟩ := HO.out.own.cells.at_ hv
      simp only [Value.slice.injEq] at e
      obtain ⟨rfl, -, -⟩ := e
      have hle := fTot_take_le pss (j + 1)
      rw [fTot_take_succ hm0] at hle
      have HS := Lib.hid (fTot_take_succ hm0)
      have HSET := Lib.hid (markGT_set (sz := msTot) (mk := markM) (k := k) hm0)
      rw [gTot_f] at HSET
      have hji : (j : Int) < (pss.length : Int) := by omega
      have HM := Lib.hid hm
      have HV := Lib.hid hv
      have HI := Lib.hid hi
      have HA := Lib.hid (And.intro a1 a2)
      have HCC := Lib.hid (show C ≤ wr.heap.size from Nat.le_trans hC HC.out.size)
      clear hm0 hm hv hi a1 a2
      generalize fTot (pss.take j) = t at hle HS HSET ⊢
      have HMK := Lib.hid (n_mark_monos wr iv.1 iv.2 vj ms (k + (t : Int)) a3 (by omega) (by omega) (by omega))
      clear a3
      go_wp2_with (go_at_call 49; go_loud (refine HMK.out.mono ?_; rintro e w2 ⟨rfl, ho2, hg2⟩; have HO2 := Lib.hid ho2; have HG2 := Lib.hid hg2; clear ho2 hg2))
      have hnx := HO.out.mark HCC.out HV.out HM.out HI.out HG2.out HO2.out
      have hc2 := HC.out.trans (HG2.out.mono HA.out.1 HA.out.2)
      go_roundw
      case rel =>
        refine ⟨j + 1, by omega, by go_num, by rw [HS.out]; push_cast; go_num, ?_, hc2⟩
        rw [← HSET.out]
        exact hnx
      case measure => simp [intOf]; omega
    · have : j = pss.length := by omega
      subst this
      go_wp2_with fail
      go_ret
      refine ⟨ret_int (by rw [List.take_length]), ⟨vs, ivs, ?_⟩, HC.out⟩
      unfold markF
      rw [← markGT_all]
      exact HO.out
theorem n_mark_field (w : World) (B C : Nat) (n : Int) (u : Value) (pss : List (List Mono)) (k : Int) (ho : PF w B C u pss) (hC : C ≤ w.heap.size) (hn : fTot pss ≤ 1073741824) (h0 : 0 ≤ k) (h1 : k ≤ 1073741824) :
    Calls Try.prog 12 #[.agg #[.int .i64 n, u], .int .i64 k] w fun e w' => e = .returned (.int .i64 (k + (fTot pss : Nat))) ∧ PF w' B C u (markF k pss) ∧ Chg B C w w' := by
  have HO := Lib.hid (ho.agree (Same.of_below (below1 w (.cells #[.int .i64 n, u] 26)) hC))
  obtain ⟨A, c, rfl, -⟩ := ho.mrows.open_
  have HC := Lib.hid ((Chg.refl B C w).trans (Chg.of_below (below1 w (.cells #[.int .i64 n, .slice A pss.length c] 26)) B C))
  have hC1 : C ≤ (w.alloc (.cells #[.int .i64 n, .slice A pss.length c] 26)).heap.size := by simp; omega
  clear ho
  go_enter Try.func12, Try.ntmps12
  go_wp2_with (go_at_call 30; go_loud (refine (n_mark_parts_f _ B C _ pss k HO.out hC1 hn h0 h1).mono ?_; rintro e w2 ⟨rfl, ho2, hc2⟩))
  go_ret
  exact ⟨rfl, ho2, HC.out.trans hc2⟩
end Go.Proofs.Ytofabikjjkapmaa

set_option maxRecDepth 100000
set_option linter.unusedVariables false
set_option linter.unusedSimpArgs false
namespace Go.Proofs.Ytofabikjjkapmaa
open Go.RowKit Go.Sort Go.Shelf

set_option maxHeartbeats 4000000 in
theorem n_held_monos (w : World) (v : Value) (ms : List Mono) (k : Int) (ho : Monos w v (markM k ms)) (hn : msTot ms ≤ 1073741824) (h0 : 0 ≤ k) (h1 : k ≤ 4294967296) :
    Calls Try.prog 50 #[v, .int .i64 k] w fun e w' => e = .returned (.int .i64 (k + (msTot ms : Nat))) ∧ w = w' := by
  obtain ⟨A, c, rfl, l1, l2, h3⟩ := ho.open_
  unfold markM at *
  rw [markG_len] at l1 h3 ⊢
  have H3 := Lib.hid h3
  clear h3 ho
  go_enter Try.func50, Try.ntmps50
  go_wp2_with fail
  go_loop [1, 5] (fun x i => ∃ j : Nat, j ≤ ms.length ∧ i = .int .i64 j ∧ x = .int .i64 (k + (msTot (ms.take j) : Nat))) (fun _ i => ms.length - (intOf i).toNat)
  case atStart => exact ⟨0, Nat.zero_le _, rfl, by simp [msTot]⟩
  case round =>
    obtain ⟨j, hj, rfl, rfl⟩ := hrel
    by_cases hlt : j < ms.length
    · obtain ⟨m, hm0⟩ : ∃ m, ms[j]? = some m := ⟨_, List.getElem?_eq_getElem hlt⟩
      obtain ⟨b, o, m', u, rfl, hm', -, hu, c0, c1⟩ := H3.out j hlt
      rw [markG_get szM mkM k ms j m hm0, gTot_ms] at hm'
      simp only [Option.some.injEq] at hm'
      subst hm'
      have hle := msTot_take_le ms (j + 1)
      rw [msTot_take_succ hm0] at hle
      have HS := Lib.hid (msTot_take_succ hm0)
      have hji : (j : Int) < (ms.length : Int) := by omega
      unfold mkM at hu c0
      simp only at hu c0
      clear hm0
      generalize msTot (ms.take j) = t at *
      have HH := Lib.hid (l_heldInt64S w u m.2.length (k + (t : Int) + 1) hu (by omega) (by omega) (by omega))
      generalize m.2.length = lq at *
      have hk1 : 0 ≤ k + (t : Int) + 1 + (lq : Int) := by omega
      clear hu
      go_wp2_with (go_at_call 40; refine HH.out.mono ?_; rintro e w2 ⟨rfl, rfl⟩)
      go_round
      case rel => exact ⟨j + 1, by omega, by go_num, by rw [HS.out]; push_cast; go_num⟩
      case measure => simp [intOf]; omega
    · have : j = ms.length := by omega
      subst this
      go_wp2_with fail
      go_ret
      exact ⟨by first | rfl | exact ret_int (by rw [List.take_length]), rfl⟩

set_option maxHeartbeats 4000000 in
theorem n_held_parts_f (w : World) (v : Value) (pss : List (List Mono)) (k : Int) (ho : MRows w v (markF k pss)) (hn : fTot pss ≤ 1073741824) (h0 : 0 ≤ k) (h1 : k ≤ 1073741824) :
    Calls Try.prog 31 #[v, .int .i64 k] w fun e w' => e = .returned (.int .i64 (k + (fTot pss : Nat))) ∧ w = w' := by
  obtain ⟨A, c, rfl, l1, l2, h3⟩ := ho.open_
  unfold markF at *
  rw [markG_len] at l1 h3 ⊢
  have H3 := Lib.hid h3
  clear h3 ho
  go_enter Try.func31, Try.ntmps31
  go_wp2_with fail
  go_loop [1, 5] (fun x i => ∃ j : Nat, j ≤ pss.length ∧ i = .int .i64 j ∧ x = .int .i64 (k + (fTot (pss.take j) : Nat))) (fun _ i => pss.length - (intOf i).toNat)
  case atStart => exact ⟨0, Nat.zero_le _, rfl, by simp [fTot]⟩
  case round =>
    obtain ⟨j, hj, rfl, rfl⟩ := hrel
    by_cases hlt : j < pss.length
    · obtain ⟨ms, hm0⟩ : ∃ ms, pss[j]? = some ms := ⟨_, List.getElem?_eq_getElem hlt⟩
      obtain ⟨ad, u, ms', rfl, hm', hu, c0⟩ := H3.out j hlt
      rw [markG_get msTot markM k pss j ms hm0, gTot_f] at hm'
      simp only [Option.some.injEq] at hm'
      subst hm'
      have hle := fTot_take_le pss (j + 1)
      rw [fTot_take_succ hm0] at hle
      have HS := Lib.hid (fTot_take_succ hm0)
      have hji : (j : Int) < (pss.length : Int) := by omega
      clear hm0
      generalize fTot (pss.take j) = t at *
      have HH := Lib.hid (n_held_monos w u ms (k + (t : Int)) hu (by omega) (by omega) (by omega))
      generalize msTot ms = lq at *
      have hk1 : 0 ≤ k + (t : Int) + (lq : Int) := by omega
      obtain ⟨Au, cu, rfl, -⟩ := hu.open_
      clear hu
      go_wp2_with (go_at_call 50; refine HH.out.mono ?_; rintro e w2 ⟨rfl, rfl⟩)
      go_round
      case rel => exact ⟨j + 1, by omega, by go_num, by rw [HS.out]; push_cast; go_num⟩
      case measure => simp [intOf]; omega
    · have : j = pss.length := by omega
      subst this
      go_wp2_with fail
      go_ret
      exact ⟨by first | rfl | exact ret_int (by rw [List.take_length]), rfl⟩
theorem n_held_field (w : World) (n : Int) (u : Value) (pss : List (List Mono)) (ho : MRows w u (markF 1 pss)) (hn : fTot pss ≤ 1073741824) :
    Calls Try.prog 13 #[.agg #[.int .i64 n, u], .int .i64 1] w fun e w' => e = .returned (.int .i64 (1 + (fTot pss : Nat))) ∧ Below w.heap.size w w' := by
  have HB := Lib.hid (below1 w (.cells #[.int .i64 n, u] 26))
  have HO := Lib.hid (ho.below HB.out)
  obtain ⟨A, c, rfl, -⟩ := ho.open_
  have hk1 : 0 ≤ 1 + (fTot pss : Int) := by omega
  clear ho
  go_enter Try.func13, Try.ntmps13
  go_wp2_with (go_at_call 31; go_loud (refine (n_held_parts_f _ _ pss 1 HO.out hn (by omega) (by omega)).mono ?_; rintro e w2 ⟨rfl, rfl⟩))
  go_ret
  exact ⟨rfl, HB.out⟩
end Go.Proofs.Ytofabikjjkapmaa

set_option maxRecDepth 100000
set_option linter.unusedVariables false
set_option linter.unusedSimpArgs false
namespace Go.Proofs.Ytofabikjjkapmaa
open Go.RowKit

set_option maxHeartbeats 1000000 in
theorem l_eqMonomial (w : World) (v v' : Value) (m m' : Mono) (ha : MonoArg w v m) (hb : MonoArg w v' m') :
    Calls Try.prog 78 #[v, v'] w fun e w' => e = .returned (.bool (decide (m = m'))) ∧ Below w.heap.size w w' := by
  obtain ⟨f, ps⟩ := m
  obtain ⟨f', ps'⟩ := m'
  obtain ⟨u, rfl, hf, hu⟩ := ha
  obtain ⟨u', rfl, hf', hu'⟩ := hb
  simp only at hf hu hf' hu' ⊢
  have BB := Lib.hid (below2 w (.cells #[.int .i64 f, u] 82) (.cells #[.int .i64 f', u'] 82))
  have HU := Lib.hid (hu.below BB.out)
  have HU' := Lib.hid (hu'.below BB.out)
  obtain ⟨A, c, rfl, -, -, -⟩ := hu.open_
  obtain ⟨A', c', rfl, -, -, -⟩ := hu'.open_
  clear hu hu'
  go_enter Try.func78, Try.ntmps78
  by_cases h : f = f'
  · have hb1 : (f != f') = false := by simp [h]
    have H := Lib.hid h
    clear h
    by_cases hp : ps = ps'
    · have HP := Lib.hid hp
      have hd : decide (ps = ps') = true := by simp [hp]
      clear hp
      go_wp2_with (go_at_call 18; refine (l_eqInt64S _ _ _ _ _ HU.out HU'.out).mono ?_; rintro e w1 ⟨rfl, n1, rfl⟩; rw [hd])
      go_ret
      exact ⟨ret_bool (by simp [H.out, HP.out]), below_drewN BB.out _⟩
    · have HP := Lib.hid hp
      have hd : decide (ps = ps') = false := by simp [hp]
      clear hp
      go_wp2_with (go_at_call 18; refine (l_eqInt64S _ _ _ _ _ HU.out HU'.out).mono ?_; rintro e w1 ⟨rfl, n1, rfl⟩; rw [hd])
      go_ret
      exact ⟨ret_bool (by simp [HP.out]), below_drewN BB.out _⟩
  · have hb1 : (f != f') = true := by simp [h]
    have H := Lib.hid h
    clear h
    go_wp2_with fail
    go_ret
    exact ⟨ret_bool (by simp [H.out]), BB.out⟩
end Go.Proofs.Ytofabikjjkapmaa

set_option maxRecDepth 100000
set_option linter.unusedVariables false
set_option linter.unusedSimpArgs false
namespace Go.Proofs.Ytofabikjjkapmaa
open Go.RowKit

theorem mtake_succ {α : Type} {xs ys : List α} {k : Nat} {x y : α} (h : xs.take k = ys.take k) (hx : xs[k]? = some x) (hy : ys[k]? = some y) (e : x = y) : xs.take (k + 1) = ys.take (k + 1) := by
  rw [List.take_add_one, List.take_add_one, h, hx, hy, e]

set_option maxHeartbeats 2000000 in
theorem l_eqMonomialS (w : World) (a b : Value) (xs ys : List Mono) (ha : Monos w a xs) (hb : Monos w b ys) :
    Calls Try.prog 48 #[a, b] w fun e w' => e = .returned (.bool (decide (xs = ys))) ∧ Below w.heap.size w w' := by
  obtain ⟨A, c, rfl, h1, h2, h3⟩ := ha.open_
  obtain ⟨B, d, rfl, g1, g2, g3⟩ := hb.open_
  clear ha hb
  have H3 := Lib.hid h3
  have G3 := Lib.hid g3
  clear h3 g3
  by_cases hl : xs.length = ys.length
  · have hl' : (((xs.length : Nat) : Int) != ((ys.length : Nat) : Int)) = false := by simp [hl]
    have HL := Lib.hid hl
    clear hl
    have g4 : ys.length ≤ xs.length := by rw [HL.out]; omega
    have g5 : xs.length ≤ ys.length := by rw [HL.out]; omega
    go_enter Try.func48, Try.ntmps48
    go_wp2
    go_loopw [5] (fun i wr => ∃ k : Nat, k ≤ xs.length ∧ i = .int .i64 k ∧ Hid (xs.take k = ys.take k) ∧ Below w.heap.size w wr) (fun i _ => xs.length - (intOf i).toNat)
    case atStart => exact ⟨0, Nat.zero_le _, rfl, rfl, Below.refl _ _⟩
    case round =>
      obtain ⟨k, hk, rfl, HT, hbw⟩ := hrel
      have HB := Lib.hid hbw
      clear hbw
      by_cases hlt : k < xs.length
      · obtain ⟨b1, o1, m1, u1, rfl, hx, hf1, hu1, hc1, hd1⟩ := H3.out k hlt
        obtain ⟨b2, o2, m2, u2, rfl, hy, hf2, hu2, hc2, hd2⟩ := G3.out k (by omega)
        obtain ⟨f1, p1⟩ := m1
        obtain ⟨f2, p2⟩ := m2
        simp only at hf1 hu1 hc1 hd1 hf2 hu2 hc2 hd2
        have hab1 : b1 < w.heap.size := World.block_lt_of_cell? w _ hc1
        have hab2 : b2 < w.heap.size := World.block_lt_of_cell? w _ hc2
        have q1 : wr.cell? ⟨b1, o1 + k * 2, none⟩ = some (.int .i64 f1) := by rw [HB.out.cell (by exact hab1)]; exact hc1
        have r1 : wr.cell? ⟨b1, o1 + k * 2 + 1, none⟩ = some u1 := by rw [HB.out.cell (by exact hab1)]; exact hd1
        have q2 : wr.cell? ⟨b2, o2 + k * 2, none⟩ = some (.int .i64 f2) := by rw [HB.out.cell (by exact hab2)]; exact hc2
        have r2 : wr.cell? ⟨b2, o2 + k * 2 + 1, none⟩ = some u2 := by rw [HB.out.cell (by exact hab2)]; exact hd2
        have M1 := Lib.hid ((show MonoArg w (.agg #[.int .i64 f1, u1]) (f1, p1) from ⟨_, rfl, hf1, hu1⟩).below HB.out)
        have M2 := Lib.hid ((show MonoArg w (.agg #[.int .i64 f2, u2]) (f2, p2) from ⟨_, rfl, hf2, hu2⟩).below HB.out)
        have HX := Lib.hid hx
        have HY := Lib.hid hy
        have hki : (k : Int) < (xs.length : Int) := by omega
        have hki2 : (k : Int) < (ys.length : Int) := by omega
        have hkn2 : k < ys.length := by omega
        clear hx hy hf1 hf2 hu1 hu2 hc1 hc2 hd1 hd2
        by_cases he : ((f1, p1) : Mono) = (f2, p2)
        · have hd : decide (((f1, p1) : Mono) = (f2, p2)) = true := decide_eq_true he
          have HE := Lib.hid he
          clear he
          go_wp2_with fail
          go_region_law (go_simp; go_at_call 78; refine (l_eqMonomial _ _ _ (f1, p1) (f2, p2) (by exact M1.out.below (Below.refl _ _).drew) (by exact M2.out.below (Below.refl _ _).drew)).mono ?_; rintro e w5 ⟨rfl, hb5⟩; rw [hd])
          all_goals
            have HB5 := Lib.hid (HB.out.trans ((below_of_drew hb5).mono HB.out.size))
            clear hb5 q1 q2 r1 r2
            go_wp2_with fail
            go_roundw
            case rel => exact ⟨k + 1, by omega, by go_num, mtake_succ HT.out HX.out HY.out HE.out, HB5.out⟩
            case measure => simp [intOf]; omega
        · have hd : decide (((f1, p1) : Mono) = (f2, p2)) = false := decide_eq_false he
          have HE := Lib.hid he
          clear he
          go_wp2_with fail
          go_region_law (go_simp; go_at_call 78; refine (l_eqMonomial _ _ _ (f1, p1) (f2, p2) (by exact M1.out.below (Below.refl _ _).drew) (by exact M2.out.below (Below.refl _ _).drew)).mono ?_; rintro e w5 ⟨rfl, hb5⟩; rw [hd])
          all_goals
            have HB5 := Lib.hid (HB.out.trans ((below_of_drew hb5).mono HB.out.size))
            clear hb5 q1 q2 r1 r2
            go_wp2_with fail
            go_ret
            refine ⟨ret_bool ?_, HB5.out⟩
            symm
            simp only [decide_eq_false_iff_not]
            rintro rfl
            have := HX.out.symm.trans HY.out
            simp only [Option.some.injEq] at this
            exact HE.out this
      · have : k = xs.length := by omega
        subst this
        go_wp2_with fail
        go_ret
        refine ⟨ret_bool ?_, HB.out⟩
        have e := HT.out
        rw [List.take_length, List.take_of_length_le (by omega)] at e
        simp [e]
  · have hl' : (((xs.length : Nat) : Int) != ((ys.length : Nat) : Int)) = true := by simp; omega
    have HL := Lib.hid hl
    clear hl
    go_enter Try.func48, Try.ntmps48
    go_wp2
    go_ret
    refine ⟨ret_bool ?_, Below.refl _ _⟩
    have := HL.out
    symm
    simp only [decide_eq_false_iff_not]
    rintro rfl
    exact this rfl
end Go.Proofs.Ytofabikjjkapmaa

set_option maxRecDepth 100000
set_option linter.unusedVariables false
set_option linter.unusedSimpArgs false
namespace Go.Proofs.Ytofabikjjkapmaa
open Go.RowKit

theorem FieldArg.below {w w' : World} {v : Value} {n : Int} {pss : List (List Mono)} (h : FieldArg w v n pss) (hb : Below w.heap.size w w') : FieldArg w' v n pss := by
  obtain ⟨vp, rfl, h1, h2⟩ := h
  exact ⟨vp, rfl, h1, h2.below hb⟩

end Go.Proofs.Ytofabikjjkapmaa

