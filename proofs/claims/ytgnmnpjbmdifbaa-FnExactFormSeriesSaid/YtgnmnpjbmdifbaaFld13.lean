/- Owned fields. The laws' helpers that make them anew. -/
import Derived.Test.YtgnmnpjbmdifbaaFld12
set_option maxRecDepth 100000
set_option linter.unusedVariables false
set_option linter.unusedSimpArgs false
namespace Go.Proofs.Ytgnmnpjbmdifbaa
open Go.RowKit

theorem T_mrow : ElemT Try.prog 38 tMs (.slice none 0 0) 24 := ⟨Try.underlying38, by kernel_rfl, rfl, by omega⟩

/-- owned lists of monomials, one behind the other -/
def OMF (w : World) : Nat → Nat → List Value → List (List Mono) → Prop
  | B, C, [], [] => B ≤ C
  | B, C, v :: vs, ms :: pss => ∃ M, OM w B M v ms ∧ OMF w M C vs pss
  | _, _, _, _ => False

section
variable {w w' : World} {v : Value} {ms : List Mono}
theorem OM.lt {B C : Nat} (h : OM w B C v ms) : B < C := by obtain ⟨g, us, _, h1, h2, _⟩ := h; omega
theorem OM.le {B C : Nat} (h : OM w B C v ms) : ∀ b, v.ownBlock = some b → B ≤ b ∧ b < C := by
  obtain ⟨g, us, rfl, h1, h2, _⟩ := h
  intro b hb
  simp [Value.ownBlock] at hb
  omega
theorem OMF.le : ∀ {B C : Nat} {vs : List Value} {pss : List (List Mono)}, OMF w B C vs pss → B ≤ C
  | B, C, [], [], h => h
  | B, C, v :: vs, ms :: pss, ⟨M, h1, h2⟩ => by have := h1.lt; have := h2.le; omega
  | B, C, [], ms :: pss, h => h.elim
  | B, C, v :: vs, [], h => h.elim
theorem OMF.len : ∀ {B C : Nat} {vs : List Value} {pss : List (List Mono)}, OMF w B C vs pss → vs.length = pss.length
  | B, C, [], [], h => rfl
  | B, C, v :: vs, ms :: pss, ⟨M, h1, h2⟩ => by simp [h2.len]
  | B, C, [], ms :: pss, h => h.elim
  | B, C, v :: vs, [], h => h.elim
theorem OMF.imp {P : Nat → Nat → Prop} (hf : ∀ B C v ms, P B C → OM w B C v ms → OM w' B C v ms) (hp : ∀ B C M, P B C → B ≤ M → M ≤ C → P B M ∧ P M C) : ∀ {B C : Nat} {vs : List Value} {pss : List (List Mono)}, P B C → OMF w B C vs pss → OMF w' B C vs pss
  | B, C, [], [], _, h => h
  | B, C, v :: vs, ms :: pss, hB, ⟨M, h1, h2⟩ => by
    obtain ⟨a, b⟩ := hp B C M hB (Nat.le_of_lt h1.lt) h2.le
    exact ⟨M, hf _ _ _ _ a h1, h2.imp hf hp b⟩
  | B, C, [], ms :: pss, _, h => h.elim
  | B, C, v :: vs, [], _, h => h.elim
theorem OMF.below {B C : Nat} {vs : List Value} {pss : List (List Mono)} (h : OMF w B C vs pss) (hb : Below w.heap.size w w') : OMF w' B C vs pss :=
  h.imp (P := fun _ _ => True) (fun _ _ _ _ _ h => h.below hb) (fun _ _ _ _ _ _ => ⟨trivial, trivial⟩) trivial
theorem OMF.kept {B C B' C' : Nat} {vs : List Value} {pss : List (List Mono)} (h : OMF w B C vs pss) (hc : Chg B' C' w w') (hd : C ≤ B' ∨ C' ≤ B) : OMF w' B C vs pss :=
  h.imp (P := fun B C => C ≤ B' ∨ C' ≤ B) (fun _ _ _ _ hd h => h.kept hc hd) (fun B C M hd h1 h2 => ⟨by omega, by omega⟩) hd
theorem OMF.snoc : ∀ {B C D : Nat} {vs : List Value} {pss : List (List Mono)}, OMF w B C vs pss → OM w C D v ms → OMF w B D (vs ++ [v]) (pss ++ [ms])
  | B, C, D, [], [], h, h' => ⟨D, h'.mono h (Nat.le_refl _), Nat.le_refl _⟩
  | B, C, D, u :: vs, ns :: pss, ⟨M, h1, h2⟩, h' => ⟨M, h1, h2.snoc h'⟩
  | B, C, D, [], ns :: pss, h, _ => h.elim
  | B, C, D, u :: vs, [], h, _ => h.elim
theorem OMF.widen : ∀ {B C D : Nat} {vs : List Value} {pss : List (List Mono)}, OMF w B C vs pss → C ≤ D → OMF w B D vs pss
  | B, C, D, [], [], h, h' => Nat.le_trans h h'
  | B, C, D, u :: vs, ns :: pss, ⟨M, h1, h2⟩, h' => ⟨M, h1, h2.widen h'⟩
  | B, C, D, [], ns :: pss, h, _ => h.elim
  | B, C, D, u :: vs, [], h, _ => h.elim
theorem OMF.get : ∀ {B C : Nat} {vs : List Value} {pss : List (List Mono)}, OMF w B C vs pss → ∀ (k : Nat) (u : Value) (ms : List Mono), vs[k]? = some u → pss[k]? = some ms → ∃ lo hi, B ≤ lo ∧ hi ≤ C ∧ OM w lo hi u ms
  | B, C, [], [], h, k, u, ms, hu, _ => by simp at hu
  | B, C, v :: vs, ns :: pss, ⟨M, h1, h2⟩, 0, u, ms, hu, hm => by simp at hu hm; subst hu; subst hm; exact ⟨B, M, Nat.le_refl _, h2.le, h1⟩
  | B, C, v :: vs, ns :: pss, ⟨M, h1, h2⟩, k + 1, u, ms, hu, hm => by
    obtain ⟨lo, hi, a, b, c⟩ := h2.get k u ms (by simpa using hu) (by simpa using hm)
    have := h1.lt
    exact ⟨lo, hi, by omega, b, c⟩
  | B, C, [], ns :: pss, h, _, _, _, _, _ => h.elim
  | B, C, u :: vs, [], h, _, _, _, _, _ => h.elim

/-- an owned list of lists of monomials -/
def OF (w : World) (B C : Nat) (v : Value) (pss : List (List Mono)) : Prop :=
  ∃ vs g, v = .slice (some ⟨g, 0, none⟩) pss.length pss.length ∧ B ≤ g ∧ Own w B tMs v vs ∧ OMF w (g + 1) C vs pss
theorem OF.below {B C : Nat} {pss : List (List Mono)} (h : OF w B C v pss) (hb : Below w.heap.size w w') : OF w' B C v pss := by
  obtain ⟨vs, g, h1, h2, h3, h4⟩ := h
  exact ⟨vs, g, h1, h2, h3.below hb, h4.below hb⟩
theorem OF.kept {B C B' C' : Nat} {pss : List (List Mono)} (h : OF w B C v pss) (hc : Chg B' C' w w') (hd : C ≤ B' ∨ C' ≤ B) : OF w' B C v pss := by
  obtain ⟨vs, g, h1, h2, h3, h4⟩ := h
  have := h4.le
  refine ⟨vs, g, h1, h2, h3.of_block fun b hb => hc.block b (h3.lt b hb) ?_, h4.kept hc (by omega)⟩
  rw [h1] at hb
  simp [Value.ownBlock] at hb
  omega
theorem OF.mono {B C B' C' : Nat} {pss : List (List Mono)} (h : OF w B C v pss) (h1 : B' ≤ B) (h2 : C ≤ C') : OF w B' C' v pss := by
  obtain ⟨vs, g, a1, a2, a3, a4⟩ := h
  exact ⟨vs, g, a1, by omega, a3.mono h1, a4.widen h2⟩
theorem OF.rows {B C : Nat} {pss : List (List Mono)} (h : OF w B C v pss) : MRows w v pss := by
  obtain ⟨vs, g, a1, a2, a3, a4⟩ := h
  refine ⟨vs, a3.cells, a4.len, fun k u ms hu hm => ?_⟩
  obtain ⟨lo, hi, -, -, h⟩ := a4.get k u ms hu hm
  exact h.monos
end

set_option maxHeartbeats 1000000 in
theorem l_toMonomialSS (w : World) (a : Value) (pss : List (List Mono)) (ha : MRows w a pss) (hn : pss.length ≤ 4294967296) (hl : ∀ ms ∈ pss, ms.length ≤ 4294967296) (hs : ∀ ms ∈ pss, ∀ m ∈ ms, m.2.length ≤ 4294967296) :
    Calls Try.prog 60 #[a] w fun e w' => ∃ v, e = .returned v ∧ OF w' w.heap.size w'.heap.size v pss ∧ Below w.heap.size w w' := by
  obtain ⟨A, c, rfl, h1, h2, h3⟩ := ha.open_
  have HL := Lib.hid hl
  have HS := Lib.hid hs
  have H3 := Lib.hid h3
  clear h3 ha hs hl
  go_enter Try.func60, Try.ntmps60
  go_wp2_with (at_make; refine wpList_mk rfl _ _ _ rfl _ _ _ T_mrow pss.length _ rfl rfl rfl (by omega) _ ?_; intro w1 hown hb hs1; have HOWN := Lib.hid hown; have HB1 := Lib.hid hb; clear hown hb)
  go_loopw [4] (fun i wr => ∃ (k : Nat) (vs : List Value), k ≤ pss.length ∧ i = .int .i64 k ∧ Own wr w.heap.size tMs (.slice (some ⟨w.heap.size, 0, none⟩) pss.length pss.length) (vs ++ List.replicate (pss.length - k) (.slice none 0 0)) ∧
    OMF wr (w.heap.size + 1) wr.heap.size vs (pss.take k) ∧ Below w.heap.size w wr) (fun i _ => pss.length - (intOf i).toNat)
  case atStart => exact ⟨0, [], Nat.zero_le _, rfl, by simpa using HOWN.out, by rw [List.take_zero]; exact hs1, HB1.out⟩
  case round =>
    obtain ⟨k, vs, hk, rfl, hown, hrows, hb⟩ := hrel
    have hvl : vs.length = k := by rw [hrows.len]; simp; omega
    have HO := Lib.hid hown
    have HR := Lib.hid hrows
    have HB := Lib.hid hb
    have HV := Lib.hid hvl
    clear hown hrows hb hvl
    by_cases hlt : k < pss.length
    · obtain ⟨ad, u, ms, rfl, hz, hu, hc0⟩ := H3.out k hlt
      have hc : wr.cell? (ad.add k) = some u := by
        rw [HB.out.cell (by rw [block_add]; have := World.block_lt_of_cell? w _ hc0; rwa [block_add] at this)]; exact hc0
      have HU := Lib.hid (hu.below HB.out)
      have hzs := HL.out ms (List.mem_of_getElem? hz)
      have hzt := HS.out ms (List.mem_of_getElem? hz)
      have HZ := Lib.hid hz
      clear hz hu hc0
      go_wp2_with fail
      refine (l_toMonomialS _ _ _ HU.out hzs hzt).mono ?_
      rintro e w2 ⟨v2, rfl, ho2, hb2⟩
      have HOM := Lib.hid ho2
      obtain ⟨g2, us2, hv2, hge2, -⟩ := ho2
      subst hv2
      have HO2 := Lib.hid (HO.out.below hb2)
      obtain ⟨u0, hu0, hcg, hfg, hg2, hg1, hown', hgr⟩ := HO2.out.storeAt (k := k) (by simp [HV.out]; omega) (.slice (some ⟨g2, 0, none⟩) ms.length ms.length)
      rw [set_next HV.out hlt] at hown'
      have HN := Lib.hid hown'
      have HB2 := Lib.hid hb2
      clear hown' hc hb2 hgr
      go_wp2_with fail
      clear hcg hfg
      have hcc := (Chg.refl w.heap.size (w.heap.size + 1) w2).setCell (p := ⟨w.heap.size, k, none⟩) (Nat.le_refl _) (by simp) (.slice (some ⟨g2, 0, none⟩) ms.length ms.length)
      have hle := HR.out.le
      have h5 := ((HR.out.below HB2.out).snoc (HOM.out)).kept hcc (.inr (Nat.le_refl _))
      go_roundw
      case rel =>
        refine ⟨k + 1, vs ++ [.slice (some ⟨g2, 0, none⟩) ms.length ms.length], by omega, by go_num, HN.out, ?_, hcc.below (HB.out.trans (HB2.out.mono HB.out.size)) (Nat.le_refl _) (by omega)⟩
        have htake : pss.take (k + 1) = pss.take k ++ [ms] := by rw [List.take_add_one, HZ.out]; simp
        rw [htake]
        exact h5.widen hcc.size
      case measure => simp [intOf]; omega
    · have : k = pss.length := by omega
      subst this
      rw [List.take_length] at HR
      go_wp2_with fail
      go_ret
      refine ⟨_, rfl, ⟨vs, w.heap.size, rfl, Nat.le_refl _, ?_, HR.out⟩, HB.out⟩
      have h := HO.out
      simpa using h

set_option maxHeartbeats 2000000 in
theorem l_toField (w : World) (v : Value) (n : Int) (pss : List (List Mono)) (ha : FieldArg w v n pss) (hn : pss.length ≤ 4294967296) (hl : ∀ ms ∈ pss, ms.length ≤ 4294967296) (hs : ∀ ms ∈ pss, ∀ m ∈ ms, m.2.length ≤ 4294967296) :
    Calls Try.prog 20 #[v] w fun e w' => ∃ u, e = .returned (.agg #[.int .i64 n, u]) ∧ In64 n ∧ OF w' w.heap.size w'.heap.size u pss ∧ Below w.heap.size w w' := by
  obtain ⟨u, rfl, hf, hu⟩ := ha
  obtain ⟨A, c, rfl, -, -, -⟩ := hu.open_
  have HU := Lib.hid hu
  have HL := Lib.hid hl
  have HS := Lib.hid hs
  clear hu hl hs
  go_enter Try.func20, Try.ntmps20
  go_wp2_with fail
  have B0 := Lib.hid (below3 w (.cells #[.int .i64 n, .slice A pss.length c] 35) (.cells #[.int .i64 0, .slice none 0 0] 40) (.cells #[.int .i64 n, .slice none 0 0] 40))
  have K1 := Lib.hid ((Blk.new1 w (.cells #[.int .i64 n, .slice A pss.length c] 35) #[.int .i64 0, .slice none 0 0] 40).alloc (.cells #[.int .i64 n, .slice none 0 0] 40))
  have K2 := Lib.hid (Blk.new2 w (.cells #[.int .i64 n, .slice A pss.length c] 35) (.cells #[.int .i64 0, .slice none 0 0] 40) #[.int .i64 n, .slice none 0 0] 40)
  generalize (((w.alloc (.cells #[.int .i64 n, .slice A pss.length c] 35)).alloc (.cells #[.int .i64 0, .slice none 0 0] 40)).alloc (.cells #[.int .i64 n, .slice none 0 0] 40)) = w1 at B0 K1 K2 ⊢
  refine (l_toMonomialSS _ _ pss (HU.out.below B0.out) hn HL.out HS.out).mono ?_
  rintro e w2 ⟨v2, rfl, ho, hb⟩
  have HO := Lib.hid ho
  obtain ⟨vs2, g2, hv, -⟩ := ho
  subst hv
  have X1 := Lib.hid (K1.out.below hb K1.out.lt)
  have X2 := Lib.hid (K2.out.below hb K2.out.lt)
  have BW := Lib.hid (B0.out.trans (hb.mono B0.out.size))
  have hl1 := K2.out.lt
  have e0 : w2.cell? ⟨w.heap.size + 1 + 1, 0, none⟩ = some (.int .i64 n) := X2.out.cell 0
  have e1 : w2.cell? ⟨w.heap.size + 1 + 1, 1, none⟩ = some (.slice none 0 0) := X2.out.cell 1
  have e2 := X2.out.frozen 1
  have f0 : w2.cell? ⟨w.heap.size + 1, 0, none⟩ = some (.int .i64 0) := X1.out.cell 0
  have f1 : w2.cell? ⟨w.heap.size + 1, 1, none⟩ = some (.slice none 0 0) := X1.out.cell 1
  have f2 := X1.out.frozen 0
  have f3 := X1.out.frozen 1
  clear hb
  go_wp2_with fail
  have c0 := Chg.refl (w.heap.size + 1) (w.heap.size + 1 + 1 + 1) w2
  have c1 := c0.setCell (p := ⟨w.heap.size + 1 + 1, 1, none⟩) (by simp) (by simp) (.slice (some ⟨g2, 0, none⟩) pss.length pss.length)
  have c2' := c1.setCell (p := ⟨w.heap.size + 1, 0, none⟩) (by simp) (by simp <;> omega) (.int .i64 n)
  have c3 := c2'.setCell (p := ⟨w.heap.size + 1, 1, none⟩) (by simp) (by simp <;> omega) (.slice (some ⟨g2, 0, none⟩) pss.length pss.length)
  refine bodyPost_ret (v := .agg #[.int .i64 n, .slice (some ⟨g2, 0, none⟩) pss.length pss.length]) (by simp [results, Try.results20, go_sem, f0, f1]) rfl ⟨_, rfl, hf, (HO.out.kept c3 (.inr (by omega))).mono (by omega) c3.size, c3.below BW.out (by omega) BW.out.size⟩
end Go.Proofs.Ytgnmnpjbmdifbaa
