/- Owned lists of monomials: two cells an element. The laws' helper that makes them anew. -/
import Derived.Test.YtgnmnpjbmdifbaaFld11
import Derived.Laws.MakeOwn
set_option maxRecDepth 100000
set_option linter.unusedVariables false
set_option linter.unusedSimpArgs false
namespace Go.Proofs.Ytgnmnpjbmdifbaa
open Go.RowKit

abbrev tM : TypeId := 80
abbrev tMs : TypeId := 78

/-- block g has room for n monomials, and holds the first ones, whose powers lie at us -/
def MBlk (w : World) (g n : Nat) (ms : List Mono) (us : List Value) : Prop :=
  ∃ cs : Array Value, Blk w g tM cs ∧ cs.size = n * 2 ∧ ∀ (i : Nat) (m : Mono) (u : Value), ms[i]? = some m → us[i]? = some u → cs[i * 2]? = some (.int .i64 m.1) ∧ cs[i * 2 + 1]? = some u

section
variable {w w' : World} {g n B C B' C' : Nat} {ms : List Mono} {us : List Value} {v : Value}
theorem MBlk.lt (h : MBlk w g n ms us) : g < w.heap.size := by obtain ⟨cs, h1, -, -⟩ := h; exact h1.lt
theorem MBlk.of_block (h : MBlk w g n ms us) (hb : w'.heap[g]? = w.heap[g]?) : MBlk w' g n ms us := by
  obtain ⟨cs, h1, h2, h3⟩ := h
  exact ⟨cs, hb.trans h1, h2, h3⟩
theorem MBlk.below (h : MBlk w g n ms us) (hb : Below w.heap.size w w') : MBlk w' g n ms us := h.of_block (hb.block g h.lt)
theorem MBlk.room (h : MBlk w g n ms us) {k : Nat} (hk : k < n) : (∃ u, w.cell? ⟨g, k * 2, none⟩ = some u) ∧ (∃ u, w.cell? ⟨g, k * 2 + 1, none⟩ = some u) ∧ w.frozen? ⟨g, k * 2, none⟩ = false ∧ w.frozen? ⟨g, k * 2 + 1, none⟩ = false := by
  obtain ⟨cs, h1, h2, h3⟩ := h
  refine ⟨⟨cs[k * 2]'(by omega), ?_⟩, ⟨cs[k * 2 + 1]'(by omega), ?_⟩, h1.frozen _, h1.frozen _⟩
  · rw [h1.cell]; exact Array.getElem?_eq_getElem _
  · rw [h1.cell]; exact Array.getElem?_eq_getElem _
theorem MBlk.next (h : MBlk w g n ms us) (hu : us.length = ms.length) (hk : ms.length < n) (m : Mono) (u : Value) :
    MBlk ((w.setCell ⟨g, ms.length * 2, none⟩ (.int .i64 m.1)).setCell ⟨g, ms.length * 2 + 1, none⟩ u) g n (ms ++ [m]) (us ++ [u]) := by
  obtain ⟨cs, h1, h2, h3⟩ := h
  refine ⟨(cs.setIfInBounds (ms.length * 2) (.int .i64 m.1)).setIfInBounds (ms.length * 2 + 1) u, (h1.set_ _ _).set_ _ _, by simpa using h2, fun i m' u' hm hu' => ?_⟩
  have hi := (List.getElem?_eq_some_iff.1 hm).1
  simp only [List.length_append, List.length_singleton] at hi
  by_cases hlt : i < ms.length
  · rw [List.getElem?_append_left hlt] at hm
    rw [List.getElem?_append_left (by omega)] at hu'
    obtain ⟨a, b⟩ := h3 i m' u' hm hu'
    rw [Array.getElem?_setIfInBounds_ne (by omega), Array.getElem?_setIfInBounds_ne (by omega), Array.getElem?_setIfInBounds_ne (by omega), Array.getElem?_setIfInBounds_ne (by omega)]
    exact ⟨a, b⟩
  · have : i = ms.length := by omega
    subst this
    rw [List.getElem?_append_right (Nat.le_refl _)] at hm
    rw [List.getElem?_append_right (by omega), hu] at hu'
    simp at hm hu'
    subst hm; subst hu'
    rw [Array.getElem?_setIfInBounds_ne (by omega), Array.getElem?_setIfInBounds_self_of_lt (by omega), Array.getElem?_setIfInBounds_self_of_lt (by simp; omega)]
    exact ⟨rfl, rfl⟩
theorem MBlk.new (w : World) (z : Array Value) (n : Nat) : MBlk (w.alloc (.cells (madeCells z (n * 2)) tM)) w.heap.size n [] [] :=
  ⟨_, Blk.new w _ tM, size_madeCells _ _, fun i m u h => by simp at h⟩

/-- an owned list of monomials -/
def OM (w : World) (B C : Nat) (v : Value) (ms : List Mono) : Prop :=
  ∃ (g : Nat) (us : List Value), v = .slice (some ⟨g, 0, none⟩) ms.length ms.length ∧ B ≤ g ∧ g < C ∧ MBlk w g ms.length ms us ∧ us.length = ms.length ∧ RowsOwn w B C tI us (ms.map (·.2)) ∧ ms.length ≤ maxLen ∧ ∀ m ∈ ms, In64 m.1
theorem OM.below (h : OM w B C v ms) (hb : Below w.heap.size w w') : OM w' B C v ms := by
  obtain ⟨g, us, rfl, h1, h2, h3, h4, h5, h6, h7⟩ := h
  exact ⟨g, us, rfl, h1, h2, h3.below hb, h4, h5.below hb, h6, h7⟩
theorem OM.mono (h : OM w B C v ms) (h1 : B' ≤ B) (h2 : C ≤ C') : OM w B' C' v ms := by
  obtain ⟨g, us, rfl, a1, a2, a3, a4, a5, a6, a7⟩ := h
  exact ⟨g, us, rfl, by omega, by omega, a3, a4, a5.mono h1 h2, a6, a7⟩
theorem OM.kept (h : OM w B C v ms) (hc : Chg B' C' w w') (hd : C ≤ B' ∨ C' ≤ B) : OM w' B C v ms := by
  obtain ⟨g, us, rfl, a1, a2, a3, a4, a5, a6, a7⟩ := h
  exact ⟨g, us, rfl, a1, a2, a3.of_block (hc.block g a3.lt (by omega)), a4, a5.kept hc hd, a6, a7⟩
theorem OM.monos (h : OM w B C v ms) : Monos w v ms := by
  obtain ⟨g, us, rfl, a1, a2, ⟨cs, b1, b2, b3⟩, a4, a5, a6, a7⟩ := h
  refine ⟨_, _, rfl, Nat.le_refl _, a6, fun k m hm => ?_⟩
  have hk := (List.getElem?_eq_some_iff.1 hm).1
  have hu : us[k]? = some (us[k]'(by omega)) := List.getElem?_eq_getElem _
  obtain ⟨c1, c2⟩ := b3 k m _ hm hu
  refine ⟨g, 0, _, rfl, a7 m (List.mem_of_getElem? hm), (a5.2.1 k _ m.2 hu (by simp [hm])).ints, ?_, ?_⟩
  · rw [b1.cell, ← c1]; simp
  · rw [b1.cell, ← c2]; simp
end

theorem run_makeM (n : Nat) (hn : n < 1099511627776) (w : World) : (Instr.makeSlice tMs (.int .i64 (n : Int)) (.int .i64 (n : Int))).run Try.prog w = .ok (.slice (some ⟨w.heap.size, 0, none⟩) n n) (w.alloc (.cells (madeCells #[.int .i64 0, .slice none 0 0] (n * 2)) tM)) := by
  have hinfo : (Try.prog.info? tM).map (fun i => (i.zero, i.size, i.bytes)) = some (some (.agg #[.int .i64 0, .slice none 0 0]), 2, 32) := by kernel_rfl
  obtain ⟨i, hi, hzz⟩ := Option.map_eq_some_iff.1 hinfo
  simp only [Prod.mk.injEq] at hzz
  obtain ⟨hz, hs, hb⟩ := hzz
  have h := Go.run_make w tMs tM i _ Try.underlying78 hi hz .i64 .i64 n n (by omega) (Int.le_refl _) (by rw [hb]; omega) (by omega)
  rw [hs] at h
  simpa [Value.cells] using h

set_option maxHeartbeats 2000000 in
theorem l_toMonomialS (w : World) (a : Value) (ms : List Mono) (ha : Monos w a ms) (hn : ms.length ≤ 4294967296) (hs : ∀ m ∈ ms, m.2.length ≤ 4294967296) :
    Calls Try.prog 113 #[a] w fun e w' => ∃ v, e = .returned v ∧ OM w' w.heap.size w'.heap.size v ms ∧ Below w.heap.size w w' := by
  obtain ⟨A, c, rfl, h1, h2, h3⟩ := ha.open_
  have HI := Lib.hid (show ∀ m ∈ ms, In64 m.1 from fun m hm => by
    obtain ⟨k, hk, rfl⟩ := List.getElem_of_mem hm
    obtain ⟨b, o, m, u, -, hx, hf, -⟩ := h3 k hk
    rw [List.getElem?_eq_getElem hk] at hx
    injection hx with hx
    rw [hx]; exact hf)
  have HS := Lib.hid hs
  have H3 := Lib.hid h3
  clear h3 ha hs
  have hmk : ∀ W : World, (Instr.makeSlice tMs (.int .i64 (ms.length : Int)) (.int .i64 (ms.length : Int))).run Try.prog W = .ok (.slice (some ⟨W.heap.size, 0, none⟩) ms.length ms.length) (W.alloc (.cells (madeCells #[.int .i64 0, .slice none 0 0] (ms.length * 2)) tM)) := fun W => run_makeM _ (by omega) W
  have M0 := Lib.hid (MBlk.new w #[.int .i64 0, .slice none 0 0] ms.length)
  have B0 := Lib.hid (below1 w (.cells (madeCells #[.int .i64 0, .slice none 0 0] (ms.length * 2)) tM))
  go_enter Try.func113, Try.ntmps113
  go_wp2
  clear hmk
  generalize (w.alloc (.cells (madeCells #[.int .i64 0, .slice none 0 0] (ms.length * 2)) tM)) = w1 at M0 B0 ⊢
  go_loopw [4] (fun i wr => ∃ (k : Nat) (us : List Value), k ≤ ms.length ∧ i = .int .i64 k ∧ us.length = k ∧ MBlk wr w.heap.size ms.length (ms.take k) us ∧
    RowsOwn wr w.heap.size wr.heap.size tI us ((ms.take k).map (·.2)) ∧ Below w.heap.size w wr) (fun i _ => ms.length - (intOf i).toNat)
  case atStart => exact ⟨0, [], Nat.zero_le _, rfl, rfl, by simpa using M0.out, by simpa using RowsOwn.nil _ _ _ _, B0.out⟩
  case round =>
    obtain ⟨k, us, hk, rfl, hul, hm0, hrows, hb⟩ := hrel
    have HM := Lib.hid hm0
    have HR := Lib.hid hrows
    have HB := Lib.hid hb
    have HUL := Lib.hid hul
    clear hm0 hrows hb hul M0 B0
    by_cases hlt : k < ms.length
    · obtain ⟨b, o, m, u, rfl, hz, hf, hu, hc1, hc2⟩ := H3.out k hlt
      obtain ⟨f, ps⟩ := m
      simp only at hf hu hc1 hc2
      have hab : b < w.heap.size := World.block_lt_of_cell? w _ hc1
      have q1 : wr.cell? ⟨b, o + k * 2, none⟩ = some (.int .i64 f) := by rw [HB.out.cell (by exact hab)]; exact hc1
      have q2 : wr.cell? ⟨b, o + k * 2 + 1, none⟩ = some u := by rw [HB.out.cell (by exact hab)]; exact hc2
      have HMA := Lib.hid (show MonoArg wr (.agg #[.int .i64 f, u]) (f, ps) from ⟨_, rfl, hf, hu.below HB.out⟩)
      have hps := HS.out (f, ps) (List.mem_of_getElem? hz)
      have HZ := Lib.hid hz
      have hki : (k : Int) < (ms.length : Int) := by omega
      clear hz hu hc1 hc2
      go_wp2_with fail
      refine (l_toMonomial _ _ (f, ps) HMA.out hps).mono ?_
      rintro e w2 ⟨v2, rfl, ho2, hb2⟩
      simp only at ho2 ⊢
      obtain ⟨A2, c2, hv2, -, -, -⟩ := ho2.ints.open_
      subst hv2
      have HM2 := Lib.hid (HM.out.below hb2)
      obtain ⟨⟨u1, r1⟩, ⟨u2, r2⟩, r3, r4⟩ := HM2.out.room hlt
      have HB2 := Lib.hid hb2
      have HO2 := Lib.hid ho2
      have HSZ := Lib.hid HM.out.lt
      clear q1 q2 ho2 hb2
      have r2' : (w2.setCell ⟨w.heap.size, k * 2, none⟩ (.int .i64 f)).cell? ⟨w.heap.size, k * 2 + 1, none⟩ = some u2 := by
        rw [World.cell?_setCell_other _ _ _ _ (by intro e; simp only [Addr.mk.injEq] at e; omega)]; exact r2
      go_wp2_with fail
      clear r1 r2 r3 r4 r2'
      have htk : (ms.take k).length = k := by rw [List.length_take]; omega
      have HN := HM2.out.next (by rw [htk]; exact HUL.out) (by rw [htk]; exact hlt) (f, ps) (.slice A2 ps.length c2)
      rw [htk] at HN
      have hcg := ((Chg.refl w.heap.size (w.heap.size + 1) w2).setCell (p := ⟨w.heap.size, k * 2, none⟩) (Nat.le_refl _) (by simp) (.int .i64 f)).setCell (p := ⟨w.heap.size, k * 2 + 1, none⟩) (Nat.le_refl _) (by simp) (.slice A2 ps.length c2)
      have hs2 := HB2.out.size
      have hs1 := HB.out.size
      have hne : ∀ (j : Nat) (u' : Value), (us ++ [Value.slice A2 ps.length c2])[j]? = some u' → u'.ownBlock = none ∨ u'.ownBlock ≠ some w.heap.size := by
        intro j u' hu'
        have hty : ∀ (B' : Nat) (z : List Int), OwnInts w2 B' tI u' z → u'.ownBlock = none ∨ u'.ownBlock ≠ some w.heap.size := by
          intro B' z hoi
          obtain ⟨cs, k1, -, -⟩ := HM2.out
          rcases hoi.1.cases with ⟨e, _⟩ | ⟨g, cap, cur, e, _, _, hg, _⟩
          · exact .inl (by rw [e]; rfl)
          · refine .inr ?_
            rw [e]
            simp only [Value.ownBlock, ne_eq, Option.some.injEq]
            rintro rfl
            rw [show w2.heap[w.heap.size]? = _ from k1] at hg
            injection hg with hg
            injection hg with _ ht
            exact absurd ht (by decide)
        by_cases hj : j < us.length
        · rw [List.getElem?_append_left hj] at hu'
          have hx : ((ms.take k).map (·.2))[j]? = some (((ms.take k).map (·.2))[j]'(by rw [← HR.out.1]; exact hj)) := List.getElem?_eq_getElem _
          exact hty _ _ (((HR.out.below HB2.out).2.1 j u' _ hu' hx).1)
        · rw [List.getElem?_append_right (by omega)] at hu'
          have hj' := (List.getElem?_eq_some_iff.1 hu').1
          simp at hj'
          have : j - us.length = 0 := by omega
          rw [this] at hu'
          simp at hu'
          subst hu'
          exact hty _ _ HO2.out.1
      have hr2 := ((HR.out.below HB2.out).mono (Nat.le_refl _) hs2).snoc (u := .slice A2 ps.length c2) (zs := ps) (HO2.out.mono hs1 (Nat.le_refl _)) (fun j u' hu' => by
        have hx : ((ms.take k).map (·.2))[j]? = some (((ms.take k).map (·.2))[j]'(by rw [← HR.out.1]; exact (List.getElem?_eq_some_iff.1 hu').1)) := List.getElem?_eq_getElem _
        exact apart_of_lt (HR.out.2.1 j u' _ hu' hx).2 HO2.out.1.1.ge)
      have hgr : w2.grownBy ((w2.setCell ⟨w.heap.size, k * 2, none⟩ (.int .i64 f)).setCell ⟨w.heap.size, k * 2 + 1, none⟩ (.slice A2 ps.length c2)) (some w.heap.size) :=
        ⟨hcg.os, hcg.tape, hcg.output, hcg.size, fun b' hb' hne' => hcg.block b' hb' (by have : b' ≠ w.heap.size := fun e => hne' (by rw [e]); omega)⟩
      have hr3 := (hr2.other hgr hne).mono (Nat.le_refl _) hcg.size
      go_roundw
      case rel =>
        have htake : ms.take (k + 1) = ms.take k ++ [(f, ps)] := by rw [List.take_add_one, HZ.out]; simp
        refine ⟨k + 1, us ++ [.slice A2 ps.length c2], by omega, by go_num, by simp [HUL.out], ?_, ?_, hcg.below (HB.out.trans (HB2.out.mono hs1)) (Nat.le_refl _) (by omega)⟩
        · rw [htake]; exact HN
        · rw [htake, List.map_append]; exact hr3
      case measure => simp [intOf]; omega
    · have : k = ms.length := by omega
      subst this
      rw [List.take_length] at HM HR
      go_wp2_with fail
      go_ret
      exact ⟨_, rfl, ⟨_, us, rfl, Nat.le_refl _, HM.out.lt, HM.out, HUL.out, HR.out, by simp only [maxLen]; omega, HI.out⟩, HB.out⟩
end Go.Proofs.Ytgnmnpjbmdifbaa
