/- Owned fields. The laws' helpers that make them anew. | The law FnExactFieldText, walked: it returns true. Printed by lawgen4.py. | Arguments that came in, opened to the words of the Mem text. | Lists of lists and tableaus that came in, opened to the words of the Mem text. | Fields that came in, opened to the words of the Mono text. -/
import Derived.Test.YtnnfjjadehgmeaaDoorFx6
import Derived.Test.YtnnfjjadehgmeaaDoorFx5
import Derived.WalkLawsBesides
import Derived.Deep.RegionHeld3
import Derived.Deep.CutRange
import Derived.Deep.CutBlock
import Derived.Test.YtnnfjjadehgmeaaDoorRows
import Derived.Test.YtnnfjjadehgmeaaDoorFx1
import Derived.WalkKit
import Derived.ProofKit
import Derived.OpenShut
import Derived.Deep.Matrix
import Derived.Lib.SmallJoins
import Derived.Test.YtnnfjjadehgmeaaDoorFx3
import Derived.Deep.SlicePairs
set_option maxRecDepth 100000
set_option linter.unusedVariables false
set_option linter.unusedSimpArgs false
namespace Go.Proofs.YtnnfjjadehgmeaaDoor
open Go.RowKit

theorem T_mrow : ElemT Tryd.prog 28 tMs (.slice none 0 0) 24 := ⟨Tryd.underlying28, by kernel_rfl, rfl, by omega⟩

/-- owned lists of monomials, one behind the other -/
def OMF (w : World) : Nat → Nat → List Value → List (List Mono) → Prop
  | B, C, [], [] => B ≤ C
  | B, C, v :: vs, ms :: pss => ∃ M, OM w B M v ms ∧ OMF w M C vs pss
  | _, _, _, _ => False

section
variable {w w' : World} {v : Value} {ms : List Mono}
theorem OM.lt {B C : Nat} (h : OM w B C v ms) : B < C := by obtain ⟨g, us, _, h1, h2, _⟩ := h; omega
theorem OM.le {B C : Nat} (h : OM w B C v ms) : ∀ b, v.ownBlock = some b → B ≤ b ∧ b < C := by
  obtain ⟨g, us, rfl, h1, h2, _⟩ := h
  intro b hb
  simp [Value.ownBlock] at hb
  omega
theorem OMF.le : ∀ {B C : Nat} {vs : List Value} {pss : List (List Mono)}, OMF w B C vs pss → B ≤ C
  | B, C, [], [], h => h
  | B, C, v :: vs, ms :: pss, ⟨M, h1, h2⟩ => by have := h1.lt; have := h2.le; omega
  | B, C, [], ms :: pss, h => h.elim
  | B, C, v :: vs, [], h => h.elim
theorem OMF.len : ∀ {B C : Nat} {vs : List Value} {pss : List (List Mono)}, OMF w B C vs pss → vs.length = pss.length
  | B, C, [], [], h => rfl
  | B, C, v :: vs, ms :: pss, ⟨M, h1, h2⟩ => by simp [h2.len]
  | B, C, [], ms :: pss, h => h.elim
  | B, C, v :: vs, [], h => h.elim
theorem OMF.imp {P : Nat → Nat → Prop} (hf : ∀ B C v ms, P B C → OM w B C v ms → OM w' B C v ms) (hp : ∀ B C M, P B C → B ≤ M → M ≤ C → P B M ∧ P M C) : ∀ {B C : Nat} {vs : List Value} {pss : List (List Mono)}, P B C → OMF w B C vs pss → OMF w' B C vs pss
  | B, C, [], [], _, h => h
  | B, C, v :: vs, ms :: pss, hB, ⟨M, h1, h2⟩ => by
    obtain ⟨a, b⟩ := hp B C M hB (Nat.le_of_lt h1.lt) h2.le
    exact ⟨M, hf _ _ _ _ a h1, h2.imp hf hp b⟩
  | B, C, [], ms :: pss, _, h => h.elim
  | B, C, v :: vs, [], _, h => h.elim
theorem OMF.below {B C : Nat} {vs : List Value} {pss : List (List Mono)} (h : OMF w B C vs pss) (hb : Below w.heap.size w w') : OMF w' B C vs pss :=
  h.imp (P := fun _ _ => True) (fun _ _ _ _ _ h => h.below hb) (fun _ _ _ _ _ _ => ⟨trivial, trivial⟩) trivial
theorem OMF.kept {B C B' C' : Nat} {vs : List Value} {pss : List (List Mono)} (h : OMF w B C vs pss) (hc : Chg B' C' w w') (hd : C ≤ B' ∨ C' ≤ B) : OMF w' B C vs pss :=
  h.imp (P := fun B C => C ≤ B' ∨ C' ≤ B) (fun _ _ _ _ hd h => h.kept hc hd) (fun B C M hd h1 h2 => ⟨by omega, by omega⟩) hd
theorem OMF.snoc : ∀ {B C D : Nat} {vs : List Value} {pss : List (List Mono)}, OMF w B C vs pss → OM w C D v ms → OMF w B D (vs ++ [v]) (pss ++ [ms])
  | B, C, D, [], [], h, h' => ⟨D, h'.mono h (Nat.le_refl _), Nat.le_refl _⟩
  | B, C, D, u :: vs, ns :: pss, ⟨M, h1, h2⟩, h' => ⟨M, h1, h2.snoc h'⟩
  | B, C, D, [], ns :: pss, h, _ => h.elim
  | B, C, D, u :: vs, [], h, _ => h.elim
theorem OMF.widen : ∀ {B C D : Nat} {vs : List Value} {pss : List (List Mono)}, OMF w B C vs pss → C ≤ D → OMF w B D vs pss
  | B, C, D, [], [], h, h' => Nat.le_trans h h'
  | B, C, D, u :: vs, ns :: pss, ⟨M, h1, h2⟩, h' => ⟨M, h1, h2.widen h'⟩
  | B, C, D, [], ns :: pss, h, _ => h.elim
  | B, C, D, u :: vs, [], h, _ => h.elim
theorem OMF.get : ∀ {B C : Nat} {vs : List Value} {pss : List (List Mono)}, OMF w B C vs pss → ∀ (k : Nat) (u : Value) (ms : List Mono), vs[k]? = some u → pss[k]? = some ms → ∃ lo hi, B ≤ lo ∧ hi ≤ C ∧ OM w lo hi u ms
  | B, C, [], [], h, k, u, ms, hu, _ => by simp at hu
  | B, C, v :: vs, ns :: pss, ⟨M, h1, h2⟩, 0, u, ms, hu, hm => by simp at hu hm; subst hu; subst hm; exact ⟨B, M, Nat.le_refl _, h2.le, h1⟩
  | B, C, v :: vs, ns :: pss, ⟨M, h1, h2⟩, k + 1, u, ms, hu, hm => by
    obtain ⟨lo, hi, a, b, c⟩ := h2.get k u ms (by simpa using hu) (by simpa using hm)
    have := h1.lt
    exact ⟨lo, hi, by omega, b, c⟩
  | B, C, [], ns :: pss, h, _, _, _, _, _ => h.elim
  | B, C, u :: vs, [], h, _, _, _, _, _ => h.elim

/-- an owned list of lists of monomials -/
def OF (w : World) (B C : Nat) (v : Value) (pss : List (List Mono)) : Prop :=
  ∃ vs g, v = .slice (some ⟨g, 0, none⟩) pss.length pss.length ∧ B ≤ g ∧ Own w B tMs v vs ∧ OMF w (g + 1) C vs pss
theorem OF.below {B C : Nat} {pss : List (List Mono)} (h : OF w B C v pss) (hb : Below w.heap.size w w') : OF w' B C v pss := by
  obtain ⟨vs, g, h1, h2, h3, h4⟩ := h
  exact ⟨vs, g, h1, h2, h3.below hb, h4.below hb⟩
theorem OF.kept {B C B' C' : Nat} {pss : List (List Mono)} (h : OF w B C v pss) (hc : Chg B' C' w w') (hd : C ≤ B' ∨ C' ≤ B) : OF w' B C v pss := by
  obtain ⟨vs, g, h1, h2, h3, h4⟩ := h
  have := h4.le
  refine ⟨vs, g, h1, h2, h3.of_block fun b hb => hc.block b (h3.lt b hb) ?_, h4.kept hc (by omega)⟩
  rw [h1] at hb
  simp [Value.ownBlock] at hb
  omega
theorem OF.mono {B C B' C' : Nat} {pss : List (List Mono)} (h : OF w B C v pss) (h1 : B' ≤ B) (h2 : C ≤ C') : OF w B' C' v pss := by
  obtain ⟨vs, g, a1, a2, a3, a4⟩ := h
  exact ⟨vs, g, a1, by omega, a3.mono h1, a4.widen h2⟩
theorem OF.rows {B C : Nat} {pss : List (List Mono)} (h : OF w B C v pss) : MRows w v pss := by
  obtain ⟨vs, g, a1, a2, a3, a4⟩ := h
  refine ⟨vs, a3.cells, a4.len, fun k u ms hu hm => ?_⟩
  obtain ⟨lo, hi, -, -, h⟩ := a4.get k u ms hu hm
  exact h.monos
end

set_option maxHeartbeats 1000000 in
theorem l_toMonomialSS (w : World) (a : Value) (pss : List (List Mono)) (ha : MRows w a pss) (hn : pss.length ≤ 4294967296) (hl : ∀ ms ∈ pss, ms.length ≤ 4294967296) (hs : ∀ ms ∈ pss, ∀ m ∈ ms, m.2.length ≤ 4294967296) :
    Calls Tryd.prog 12 #[a] w fun e w' => ∃ v, e = .returned v ∧ OF w' w.heap.size w'.heap.size v pss ∧ Below w.heap.size w w' := by
  obtain ⟨A, c, rfl, h1, h2, h3⟩ := ha.open_
  have HL := Lib.hid hl
  have HS := Lib.hid hs
  have H3 := Lib.hid h3
  clear h3 ha hs hl
  go_enter Tryd.func12, Tryd.ntmps12
  go_wp2_with (at_make; refine wpList_mk rfl _ _ _ rfl _ _ _ T_mrow pss.length _ rfl rfl rfl (by omega) _ ?_; intro w1 hown hb hs1; have HOWN := Lib.hid hown; have HB1 := Lib.hid hb; clear hown hb)
  go_loopw [4] (fun i wr => ∃ (k : Nat) (vs : List Value), k ≤ pss.length ∧ i = .int .i64 k ∧ Own wr w.heap.size tMs (.slice (some ⟨w.heap.size, 0, none⟩) pss.length pss.length) (vs ++ List.replicate (pss.length - k) (.slice none 0 0)) ∧
    OMF wr (w.heap.size + 1) wr.heap.size vs (pss.take k) ∧ Below w.heap.size w wr) (fun i _ => pss.length - (intOf i).toNat)
  case atStart => exact ⟨0, [], Nat.zero_le _, rfl, by simpa using HOWN.out, by rw [List.take_zero]; exact hs1, HB1.out⟩
  case round =>
    obtain ⟨k, vs, hk, rfl, hown, hrows, hb⟩ := hrel
    have hvl : vs.length = k := by rw [hrows.len]; simp; omega
    have HO := Lib.hid hown
    have HR := Lib.hid hrows
    have HB := Lib.hid hb
    have HV := Lib.hid hvl
    clear hown hrows hb hvl
    by_cases hlt : k < pss.length
    · obtain ⟨ad, u, ms, rfl, hz, hu, hc0⟩ := H3.out k hlt
      have hc : wr.cell? (ad.add k) = some u := by
        rw [HB.out.cell (by rw [block_add]; have := World.block_lt_of_cell? w _ hc0; rwa [block_add] at this)]; exact hc0
      have HU := Lib.hid (hu.below HB.out)
      have hzs := HL.out ms (List.mem_of_getElem? hz)
      have hzt := HS.out ms (List.mem_of_getElem? hz)
      have HZ := Lib.hid hz
      clear hz hu hc0
      go_wp2_with fail
      refine (l_toMonomialS _ _ _ HU.out hzs hzt).mono ?_
      rintro e w2 ⟨v2, rfl, ho2, hb2⟩
      have HOM := Lib.hid ho2
      obtain ⟨g2, us2, hv2, hge2, -⟩ := ho2
      subst hv2
      have HO2 := Lib.hid (HO.out.below hb2)
      obtain ⟨u0, hu0, hcg, hfg, hg2, hg1, hown', hgr⟩ := HO2.out.storeAt (k := k) (by simp [HV.out]; omega) (.slice (some ⟨g2, 0, none⟩) ms.length ms.length)
      rw [set_next HV.out hlt] at hown'
      have HN := Lib.hid hown'
      have HB2 := Lib.hid hb2
      clear hown' hc hb2 hgr
      go_wp2_with fail
      clear hcg hfg
      have hcc := (Chg.refl w.heap.size (w.heap.size + 1) w2).setCell (p := ⟨w.heap.size, k, none⟩) (Nat.le_refl _) (by simp) (.slice (some ⟨g2, 0, none⟩) ms.length ms.length)
      have hle := HR.out.le
      have h5 := ((HR.out.below HB2.out).snoc (HOM.out)).kept hcc (.inr (Nat.le_refl _))
      go_roundw
      case rel =>
        refine ⟨k + 1, vs ++ [.slice (some ⟨g2, 0, none⟩) ms.length ms.length], by omega, by go_num, HN.out, ?_, hcc.below (HB.out.trans (HB2.out.mono HB.out.size)) (Nat.le_refl _) (by omega)⟩
        have htake : pss.take (k + 1) = pss.take k ++ [ms] := by rw [List.take_add_one, HZ.out]; simp
        rw [htake]
        exact h5.widen hcc.size
      case measure => simp [intOf]; omega
    · have : k = pss.length := by omega
      subst this
      rw [List.take_length] at HR
      go_wp2_with fail
      go_ret
      refine ⟨_, rfl, ⟨vs, w.heap.size, rfl, Nat.le_refl _, ?_, HR.out⟩, HB.out⟩
      have h := HO.out
      simpa using h

set_option maxHeartbeats 2000000 in
theorem l_toField (w : World) (v : Value) (n : Int) (pss : List (List Mono)) (ha : FieldArg w v n pss) (hn : pss.length ≤ 4294967296) (hl : ∀ ms ∈ pss, ms.length ≤ 4294967296) (hs : ∀ ms ∈ pss, ∀ m ∈ ms, m.2.length ≤ 4294967296) :
    Calls Tryd.prog 6 #[v] w fun e w' => ∃ u, e = .returned (.agg #[.int .i64 n, u]) ∧ In64 n ∧ OF w' w.heap.size w'.heap.size u pss ∧ Below w.heap.size w w' := by
  obtain ⟨u, rfl, hf, hu⟩ := ha
  obtain ⟨A, c, rfl, -, -, -⟩ := hu.open_
  have HU := Lib.hid hu
  have HL := Lib.hid hl
  have HS := Lib.hid hs
  clear hu hl hs
  go_enter Tryd.func6, Tryd.ntmps6
  go_wp2_with fail
  have B0 := Lib.hid (below3 w (.cells #[.int .i64 n, .slice A pss.length c] 24) (.cells #[.int .i64 0, .slice none 0 0] 30) (.cells #[.int .i64 n, .slice none 0 0] 30))
  have K1 := Lib.hid ((Blk.new1 w (.cells #[.int .i64 n, .slice A pss.length c] 24) #[.int .i64 0, .slice none 0 0] 30).alloc (.cells #[.int .i64 n, .slice none 0 0] 30))
  have K2 := Lib.hid (Blk.new2 w (.cells #[.int .i64 n, .slice A pss.length c] 24) (.cells #[.int .i64 0, .slice none 0 0] 30) #[.int .i64 n, .slice none 0 0] 30)
  generalize (((w.alloc (.cells #[.int .i64 n, .slice A pss.length c] 24)).alloc (.cells #[.int .i64 0, .slice none 0 0] 30)).alloc (.cells #[.int .i64 n, .slice none 0 0] 30)) = w1 at B0 K1 K2 ⊢
  refine (l_toMonomialSS _ _ pss (HU.out.below B0.out) hn HL.out HS.out).mono ?_
  rintro e w2 ⟨v2, rfl, ho, hb⟩
  have HO := Lib.hid ho
  obtain ⟨vs2, g2, hv, -⟩ := ho
  subst hv
  have X1 := Lib.hid (K1.out.below hb K1.out.lt)
  have X2 := Lib.hid (K2.out.below hb K2.out.lt)
  have BW := Lib.hid (B0.out.trans (hb.mono B0.out.size))
  have hl1 := K2.out.lt
  have e0 : w2.cell? ⟨w.heap.size + 1 + 1, 0, none⟩ = some (.int .i64 n) := X2.out.cell 0
  have e1 : w2.cell? ⟨w.heap.size + 1 + 1, 1, none⟩ = some (.slice none 0 0) := X2.out.cell 1
  have e2 := X2.out.frozen 1
  have f0 : w2.cell? ⟨w.heap.size + 1, 0, none⟩ = some (.int .i64 0) := X1.out.cell 0
  have f1 : w2.cell? ⟨w.heap.size + 1, 1, none⟩ = some (.slice none 0 0) := X1.out.cell 1
  have f2 := X1.out.frozen 0
  have f3 := X1.out.frozen 1
  clear hb
  go_wp2_with fail
  have c0 := Chg.refl (w.heap.size + 1) (w.heap.size + 1 + 1 + 1) w2
  have c1 := c0.setCell (p := ⟨w.heap.size + 1 + 1, 1, none⟩) (by simp) (by simp) (.slice (some ⟨g2, 0, none⟩) pss.length pss.length)
  have c2' := c1.setCell (p := ⟨w.heap.size + 1, 0, none⟩) (by simp) (by simp <;> omega) (.int .i64 n)
  have c3 := c2'.setCell (p := ⟨w.heap.size + 1, 1, none⟩) (by simp) (by simp <;> omega) (.slice (some ⟨g2, 0, none⟩) pss.length pss.length)
  refine bodyPost_ret (v := .agg #[.int .i64 n, .slice (some ⟨g2, 0, none⟩) pss.length pss.length]) (by simp [results, Tryd.results6, go_sem, f0, f1]) rfl ⟨_, rfl, hf, (HO.out.kept c3 (.inr (by omega))).mono (by omega) c3.size, c3.below BW.out (by omega) BW.out.size⟩
end Go.Proofs.YtnnfjjadehgmeaaDoor

set_option maxRecDepth 100000
set_option linter.unusedVariables false
set_option linter.unusedSimpArgs false
namespace Go.Proofs.YtnnfjjadehgmeaaDoor
open Go.RowKit

theorem OF.arg {w : World} {B C : Nat} {u : Value} {n : Int} {pss : List (List Mono)} (h : OF w B C u pss) (hn : In64 n) : FieldArg w (.agg #[.int .i64 n, u]) n pss := ⟨_, rfl, hn, h.rows⟩
theorem OF.open_ {w : World} {B C : Nat} {u : Value} {pss : List (List Mono)} (h : OF w B C u pss) : ∃ A c, u = .slice A pss.length c := by obtain ⟨_, g, h, -⟩ := h; exact ⟨_, _, h⟩

theorem szFld_le0 {left : Int} {pss : List (List Mono)} (h : 0 ≤ szFld left pss) : szFld left pss ≤ left := by
  unfold szFld szMM at h ⊢
  by_cases h1 : left - pss.length < 0
  · simp [h1] at h
  · rw [if_neg h1] at h ⊢
    by_cases h2 : szMR (left - pss.length) pss < 0
    · rw [if_pos h2] at h; omega
    · rw [if_neg h2] at h ⊢
      have := (szMR_le (by omega : 0 ≤ szMR (left - pss.length) pss)).1
      omega
set_option maxRecDepth 100000 in
set_option maxHeartbeats 8000000 in
theorem law_FnExactFieldText_gen (w : World) (v0 : Value) (n0 : Int) (pss0 : List (List Mono)) (ha0 : FieldArg w v0 n0 pss0) (r : List UInt8) (c : Int) 
    (hS : (∀ ms ∈ pss0, ms.length ≤ 4294967296) → (∀ ms ∈ pss0, ∀ m ∈ ms, m.2.length ≤ 4294967296) → ∀ (W : World) (v0 : Value), Below w.heap.size w W → FieldArg W v0 n0 pss0 → Calls Tryd.prog 5 #[v0] W fun e w' => e = .returned (.tuple #[strB r, .int .i64 c]) ∧ Below W.heap.size W w')
    (hI : (∀ ms ∈ pss0, ms.length ≤ 4294967296) → (∀ ms ∈ pss0, ∀ m ∈ ms, m.2.length ≤ 4294967296) → ∀ (W : World) (v0 : Value), Below w.heap.size w W → FieldArg W v0 n0 pss0 → Calls Tryd.prog 7 #[v0] W fun e w' => e = .returned (.tuple #[strB r, .int .i64 c]) ∧ Below W.heap.size W w') :
    Calls Tryd.prog 3 #[v0] w fun e w' => e = .returned (.bool true) ∧ Below w.heap.size w w' := by
  have B := Lib.hid (Below.refl w.heap.size w)
  have HS := Lib.hid hS
  have HI := Lib.hid hI
  clear hS hI
  have HA0 := Lib.hid ha0
  obtain ⟨u0, rfl, hn0, hu0⟩ := ha0
  obtain ⟨A0, c0, rfl, -, -, -⟩ := hu0.open_
  have HN0 := Lib.hid hn0
  clear hn0 hu0
  go_enter Tryd.func3, Tryd.ntmps3
  go_wp2_with fail
  obtain ⟨w1, hw1⟩ : ∃ x, x = w.alloc (.cells #[.int .i64 n0, .slice A0 pss0.length c0] 24) := ⟨_, rfl⟩
  rw [← hw1]
  have b2 : Below w.heap.size w w1 := by rw [hw1]; exact below1 _ _
  have Ka0 := Lib.hid (show Blk w1 w.heap.size 24 #[.int .i64 n0, .slice A0 pss0.length c0] by rw [hw1]; exact Blk.new _ _ _)
  have ZSa0 := Lib.hid (show w.heap.size + 1 ≤ w1.heap.size by rw [hw1]; exact Nat.le_of_eq (Array.size_push _).symm)
  have Z3 := Lib.hid (b2.size)
  have NB := Lib.hid (B.out.trans (b2.mono B.out.size))
  clear B
  have B := NB
  clear NB
  clear b2 hw1
  refine (l_szField _ _ n0 pss0 _ (HA0.out.below B.out) (by omega) (by omega)).mono ?_
  rintro e w4 ⟨rfl, b5⟩
  have Z6 := Lib.hid (b5.size)
  have NKa0 := Lib.hid (Ka0.out.below b5 (by have y0 := Z3.out; have y1 := ZSa0.out; have y2 := Z6.out; first | omega | (simp at *; omega)))
  clear Ka0
  have Ka0 := NKa0
  clear NKa0
  have NB := Lib.hid (B.out.trans (b5.mono B.out.size))
  clear B
  have B := NB
  clear NB
  clear b5
  by_cases hs0 : szFld 1048576 pss0 < 0
  · skip
    have gKa00 : w4.cell? ⟨w.heap.size, 0, none⟩ = some (.int .i64 n0) := Ka0.out.cell 0
    have gKa01 : w4.cell? ⟨w.heap.size, 1, none⟩ = some (.slice A0 pss0.length c0) := Ka0.out.cell 1
    go_wp2_with fail
    clear gKa00 gKa01
    go_ret
    exact ⟨rfl, B.out⟩
  have hsh0 := szFld_short (by omega : 0 ≤ szFld 1048576 pss0) (by omega)
  have F1_0 := Lib.hid hsh0.1
  have F2_0 := Lib.hid hsh0.2.1
  have F3_0 := Lib.hid hsh0.2.2
  have ht0 := szFld_le0 (by omega : 0 ≤ szFld 1048576 pss0)
  have hle0 : szFld 1048576 pss0 ≤ 1048576 := by omega
  obtain ⟨left0, hleft0⟩ : ∃ x, x = szFld 1048576 pss0 := ⟨_, rfl⟩
  rw [← hleft0] at hs0 hle0 ⊢
  clear ht0 hsh0 hleft0
  have hs0 : 0 ≤ left0 := by omega
  have gKa00 : w4.cell? ⟨w.heap.size, 0, none⟩ = some (.int .i64 n0) := Ka0.out.cell 0
  have gKa01 : w4.cell? ⟨w.heap.size, 1, none⟩ = some (.slice A0 pss0.length c0) := Ka0.out.cell 1
  go_wp2_with fail
  clear gKa00 gKa01
  have HS := Lib.hid (HS.out F2_0.out F3_0.out)
  have HI := Lib.hid (HI.out F2_0.out F3_0.out)
  refine (l_toField _ _ n0 pss0 (HA0.out.below B.out) F1_0.out F2_0.out F3_0.out).mono ?_
  rintro e w7 ⟨xT0, rfl, -, hT0, b8⟩
  have Z9 := Lib.hid (b8.size)
  have NKa0 := Lib.hid (Ka0.out.below b8 (by have y0 := Z3.out; have y1 := ZSa0.out; have y2 := Z6.out; have y3 := Z9.out; first | omega | (simp at *; omega)))
  clear Ka0
  have Ka0 := NKa0
  clear NKa0
  have NB := Lib.hid (B.out.trans (b8.mono B.out.size))
  clear B
  have B := NB
  clear NB
  clear b8
  obtain ⟨AaT0, caT0, rfl⟩ := hT0.open_
  have T0 := Lib.hid hT0
  clear hT0
  have gKa00 : w7.cell? ⟨w.heap.size, 0, none⟩ = some (.int .i64 n0) := Ka0.out.cell 0
  have gKa01 : w7.cell? ⟨w.heap.size, 1, none⟩ = some (.slice A0 pss0.length c0) := Ka0.out.cell 1
  go_wp2_with fail
  clear gKa00 gKa01
  refine (HS.out _ _ B.out (T0.out.arg HN0.out)).mono ?_
  rintro e w10 ⟨rfl, b11⟩
  have Z12 := Lib.hid (b11.size)
  have NKa0 := Lib.hid (Ka0.out.below b11 (by have y0 := Z3.out; have y1 := ZSa0.out; have y2 := Z6.out; have y3 := Z9.out; have y4 := Z12.out; first | omega | (simp at *; omega)))
  clear Ka0
  have Ka0 := NKa0
  clear NKa0
  have NT0 := Lib.hid (T0.out.below b11)
  clear T0
  have T0 := NT0
  clear NT0
  have NB := Lib.hid (B.out.trans (b11.mono B.out.size))
  clear B
  have B := NB
  clear NB
  clear b11
  clear T0
  have gKa00 : w10.cell? ⟨w.heap.size, 0, none⟩ = some (.int .i64 n0) := Ka0.out.cell 0
  have gKa01 : w10.cell? ⟨w.heap.size, 1, none⟩ = some (.slice A0 pss0.length c0) := Ka0.out.cell 1
  go_wp2_with fail
  clear gKa00 gKa01
  refine (l_toField _ _ n0 pss0 (HA0.out.below B.out) F1_0.out F2_0.out F3_0.out).mono ?_
  rintro e w13 ⟨xX0, rfl, -, hX0, b14⟩
  have Z15 := Lib.hid (b14.size)
  have NKa0 := Lib.hid (Ka0.out.below b14 (by have y0 := Z3.out; have y1 := ZSa0.out; have y2 := Z6.out; have y3 := Z9.out; have y4 := Z12.out; have y5 := Z15.out; first | omega | (simp at *; omega)))
  clear Ka0
  have Ka0 := NKa0
  clear NKa0
  have NB := Lib.hid (B.out.trans (b14.mono B.out.size))
  clear B
  have B := NB
  clear NB
  clear b14
  obtain ⟨AaX0, caX0, rfl⟩ := hX0.open_
  have X0 := Lib.hid hX0
  clear hX0
  have gKa00 : w13.cell? ⟨w.heap.size, 0, none⟩ = some (.int .i64 n0) := Ka0.out.cell 0
  have gKa01 : w13.cell? ⟨w.heap.size, 1, none⟩ = some (.slice A0 pss0.length c0) := Ka0.out.cell 1
  go_wp2_with fail
  clear gKa00 gKa01
  obtain ⟨w16, hw16⟩ : ∃ x, x = w13.alloc (.cells #[.int .i64 n0, .slice AaX0 pss0.length caX0] 30) := ⟨_, rfl⟩
  rw [← hw16]
  have b17 : Below w13.heap.size w13 w16 := by rw [hw16]; exact below1 _ _
  have Kx0 := Lib.hid (show Blk w16 w13.heap.size 30 #[.int .i64 n0, .slice AaX0 pss0.length caX0] by rw [hw16]; exact Blk.new _ _ _)
  have ZSx0 := Lib.hid (show w13.heap.size + 1 ≤ w16.heap.size by rw [hw16]; exact Nat.le_of_eq (Array.size_push _).symm)
  have Z18 := Lib.hid (b17.size)
  have NKa0 := Lib.hid (Ka0.out.below b17 (by have y0 := Z3.out; have y1 := ZSa0.out; have y2 := Z6.out; have y3 := Z9.out; have y4 := Z12.out; have y5 := Z15.out; have y6 := Z18.out; first | omega | (simp at *; omega)))
  clear Ka0
  have Ka0 := NKa0
  clear NKa0
  have NX0 := Lib.hid (X0.out.below b17)
  clear X0
  have X0 := NX0
  clear NX0
  have NB := Lib.hid (B.out.trans (b17.mono B.out.size))
  clear B
  have B := NB
  clear NB
  clear b17 hw16
  have gKa00 : w16.cell? ⟨w.heap.size, 0, none⟩ = some (.int .i64 n0) := Ka0.out.cell 0
  have gKa01 : w16.cell? ⟨w.heap.size, 1, none⟩ = some (.slice A0 pss0.length c0) := Ka0.out.cell 1
  have gKx00 : w16.cell? ⟨w13.heap.size, 0, none⟩ = some (.int .i64 n0) := Kx0.out.cell 0
  have gKx01 : w16.cell? ⟨w13.heap.size, 1, none⟩ = some (.slice AaX0 pss0.length caX0) := Kx0.out.cell 1
  go_wp2_with fail
  clear gKa00 gKa01 gKx00 gKx01
  refine (HI.out _ _ B.out (X0.out.arg HN0.out)).mono ?_
  rintro e w19 ⟨rfl, b20⟩
  have Z21 := Lib.hid (b20.size)
  have NKa0 := Lib.hid (Ka0.out.below b20 (by have y0 := Z3.out; have y1 := ZSa0.out; have y2 := Z6.out; have y3 := Z9.out; have y4 := Z12.out; have y5 := Z15.out; have y6 := Z18.out; have y7 := ZSx0.out; have y8 := Z21.out; first | omega | (simp at *; omega)))
  clear Ka0
  have Ka0 := NKa0
  clear NKa0
  have NX0 := Lib.hid (X0.out.below b20)
  clear X0
  have X0 := NX0
  clear NX0
  have NKx0 := Lib.hid (Kx0.out.below b20 (by have y0 := Z3.out; have y1 := ZSa0.out; have y2 := Z6.out; have y3 := Z9.out; have y4 := Z12.out; have y5 := Z15.out; have y6 := Z18.out; have y7 := ZSx0.out; have y8 := Z21.out; first | omega | (simp at *; omega)))
  clear Kx0
  have Kx0 := NKx0
  clear NKx0
  have NB := Lib.hid (B.out.trans (b20.mono B.out.size))
  clear B
  have B := NB
  clear NB
  clear b20
  have gKa00 : w19.cell? ⟨w.heap.size, 0, none⟩ = some (.int .i64 n0) := Ka0.out.cell 0
  have gKa01 : w19.cell? ⟨w.heap.size, 1, none⟩ = some (.slice A0 pss0.length c0) := Ka0.out.cell 1
  have gKx00 : w19.cell? ⟨w13.heap.size, 0, none⟩ = some (.int .i64 n0) := Kx0.out.cell 0
  have gKx01 : w19.cell? ⟨w13.heap.size, 1, none⟩ = some (.slice AaX0 pss0.length caX0) := Kx0.out.cell 1
  go_wp2_with fail
  clear gKa00 gKa01 gKx00 gKx01
  have gKa00 : w19.cell? ⟨w.heap.size, 0, none⟩ = some (.int .i64 n0) := Ka0.out.cell 0
  have gKa01 : w19.cell? ⟨w.heap.size, 1, none⟩ = some (.slice A0 pss0.length c0) := Ka0.out.cell 1
  have gKx00 : w19.cell? ⟨w13.heap.size, 0, none⟩ = some (.int .i64 n0) := Kx0.out.cell 0
  have gKx01 : w19.cell? ⟨w13.heap.size, 1, none⟩ = some (.slice AaX0 pss0.length caX0) := Kx0.out.cell 1
  go_region_held3 (fun w' => w'.cell? ⟨w.heap.size, 0, none⟩ = some (.int .i64 n0) ∧ w'.cell? ⟨w.heap.size, 1, none⟩ = some (.slice A0 pss0.length c0) ∧ w'.cell? ⟨w13.heap.size, 0, none⟩ = some (.int .i64 n0) ∧ w'.cell? ⟨w13.heap.size, 1, none⟩ = some (.slice AaX0 pss0.length caX0)) ((go_split_ands; refine ⟨?_, ?_, ?_, ?_⟩ <;> (first | (rw [hb7.cell (by have l0 := Ka0.out.lt; have l1 := Kx0.out.lt; have h3 := hb6.size; simp at h3 ⊢; omega)]; assumption) | (rw [hb6.cell (by first | exact Ka0.out.lt | exact Kx0.out.lt)]; assumption) | go_keep)))
    (first | (go_at_call 6; refine (l_toField _ _ n0 pss0 (by exact HA0.out.below B.out.drew) F1_0.out F2_0.out F3_0.out).mono ?_; rintro e wq6 ⟨x1, rfl, hn6, hx1, hb6⟩) | (go_at_call 8; refine (l_eqField _ _ _ n0 n0 pss0 pss0 (by exact (X0.out.arg HN0.out).below (below_of_drew hb6)) (by exact hx1.arg HN0.out)).mono ?_; rintro e wq7 ⟨rfl, hb7⟩))
  clear gKa00 gKa01 gKx00 gKx01
  have hb6 : Below w19.heap.size w19 wq6 := below_of_drew hb6
  have Z22 := Lib.hid (hb6.size)
  have NKa0 := Lib.hid (Ka0.out.below hb6 (by have y0 := Z3.out; have y1 := ZSa0.out; have y2 := Z6.out; have y3 := Z9.out; have y4 := Z12.out; have y5 := Z15.out; have y6 := Z18.out; have y7 := ZSx0.out; have y8 := Z21.out; have y9 := Z22.out; first | omega | (simp at *; omega)))
  clear Ka0
  have Ka0 := NKa0
  clear NKa0
  have NX0 := Lib.hid (X0.out.below hb6)
  clear X0
  have X0 := NX0
  clear NX0
  have NKx0 := Lib.hid (Kx0.out.below hb6 (by have y0 := Z3.out; have y1 := ZSa0.out; have y2 := Z6.out; have y3 := Z9.out; have y4 := Z12.out; have y5 := Z15.out; have y6 := Z18.out; have y7 := ZSx0.out; have y8 := Z21.out; have y9 := Z22.out; first | omega | (simp at *; omega)))
  clear Kx0
  have Kx0 := NKx0
  clear NKx0
  have NB := Lib.hid (B.out.trans (hb6.mono B.out.size))
  clear B
  have B := NB
  clear NB
  have Z23 := Lib.hid (hb7.size)
  have NKa0 := Lib.hid (Ka0.out.below hb7 (by have y0 := Z3.out; have y1 := ZSa0.out; have y2 := Z6.out; have y3 := Z9.out; have y4 := Z12.out; have y5 := Z15.out; have y6 := Z18.out; have y7 := ZSx0.out; have y8 := Z21.out; have y9 := Z22.out; have y10 := Z23.out; first | omega | (simp at *; omega)))
  clear Ka0
  have Ka0 := NKa0
  clear NKa0
  have NX0 := Lib.hid (X0.out.below hb7)
  clear X0
  have X0 := NX0
  clear NX0
  have NKx0 := Lib.hid (Kx0.out.below hb7 (by have y0 := Z3.out; have y1 := ZSa0.out; have y2 := Z6.out; have y3 := Z9.out; have y4 := Z12.out; have y5 := Z15.out; have y6 := Z18.out; have y7 := ZSx0.out; have y8 := Z21.out; have y9 := Z22.out; have y10 := Z23.out; first | omega | (simp at *; omega)))
  clear Kx0
  have Kx0 := NKx0
  clear NKx0
  have NB := Lib.hid (B.out.trans (hb7.mono B.out.size))
  clear B
  have B := NB
  clear NB
  clear hb6 hb7 hx1 hn6
  have gKa00 : wq7.cell? ⟨w.heap.size, 0, none⟩ = some (.int .i64 n0) := Ka0.out.cell 0
  have gKa01 : wq7.cell? ⟨w.heap.size, 1, none⟩ = some (.slice A0 pss0.length c0) := Ka0.out.cell 1
  have gKx00 : wq7.cell? ⟨w13.heap.size, 0, none⟩ = some (.int .i64 n0) := Kx0.out.cell 0
  have gKx01 : wq7.cell? ⟨w13.heap.size, 1, none⟩ = some (.slice AaX0 pss0.length caX0) := Kx0.out.cell 1
  go_wp2_with fail
  clear gKa00 gKa01 gKx00 gKx01
  go_ret
  exact ⟨rfl, B.out⟩

theorem law_FieldText (w : World) (v : Value) (n : Int) (pss : List (List Mono)) (ha : FieldArg w v n pss) (ht : PowTab w) :
    Calls Tryd.prog 3 #[v] w fun e w' => e = .returned (.bool true) ∧ Below w.heap.size w w' :=
  law_FnExactFieldText_gen w v n pss ha (ftR n pss) (ftC n pss)
    (fun hl hs W v0 _ hf => s_FieldText W v0 n pss hf hl hs)
    (fun hl hs W v0 hb hf => i_FieldText W v0 n pss hf hl hs (powTab_below ht hb))
end Go.Proofs.YtnnfjjadehgmeaaDoor

set_option maxRecDepth 100000
set_option linter.unusedVariables false
set_option linter.unusedSimpArgs false
namespace Go.Proofs.YtnnfjjadehgmeaaDoor
open Go.ChangeShapes Go.WideShapes Go.ChangeAt Go.RowKit

theorem in64_of_wf {z : Int} (h : (Lit.int .i64 z).wf = true) : In64 z := by
  simp [Lit.wf, IntKind.min, IntKind.max, IntKind.signed, IntKind.bits] at h
  unfold In64
  omega

end Go.Proofs.YtnnfjjadehgmeaaDoor

set_option maxRecDepth 100000
set_option linter.unusedVariables false
set_option linter.unusedSimpArgs false
namespace Go.Proofs.YtnnfjjadehgmeaaDoor
open Go.ChangeShapes Go.WideShapes Go.ChangeAt Go.RowKit Go.Deep Go.Joins

theorem ints_of_trod {H : Type} {enc : TypeId × Value → H} {W : World} {fuel : Nat} {v : Value} {x : DataW H × List MemPlace}
    (hf : DataW.trod enc Tryd.prog W 0 (fun _ => true) true fuel 43 [v] = some x) : ∃ zs, Ints W v zs := by
  rcases open_ints Tryd.underlying43 Tryd.underlying2 (by kernel_rfl) hf with ⟨hcs, _⟩ | ⟨x, l, c, zs, hcs, _, hl, hm, hz, _, hcell, hwz⟩
  · simp at hcs
    subst hcs
    exact ⟨[], ⟨none, 0, rfl, by simp [ints], by simp [maxLen], fun k u hk => by simp [ints] at hk⟩, fun z hz => by simp at hz⟩
  · simp at hcs
    subst hcs
    have hz' : zs.length = c := by simpa using hz
    have hlen : (ints (zs.take l)).length = l := by simp [ints]; omega
    refine ⟨zs.take l, ⟨some x, c, by rw [hlen], by rw [hlen]; exact hl, hm, fun k u hk => ⟨x, rfl, ?_⟩⟩, fun z hz => in64_of_wf (hwz z (List.mem_of_mem_take hz))⟩
    have hk2 : k < (ints (zs.take l)).length := (List.getElem?_eq_some_iff.1 hk).1
    rw [hlen] at hk2
    rw [hcell k (by omega)]
    have e : (ints (zs.take l))[k]? = some (.int .i64 (zs.getD k 0)) := by
      simp [ints, List.getElem?_take, hk2, List.getD, show k < zs.length by omega]
    rw [e] at hk
    exact hk

end Go.Proofs.YtnnfjjadehgmeaaDoor

set_option maxRecDepth 100000
set_option linter.unusedVariables false
set_option linter.unusedSimpArgs false
namespace Go.Proofs.YtnnfjjadehgmeaaDoor
open Go.ChangeShapes Go.WideShapes Go.ChangeAt Go.RowKit Go.Deep Go.Joins

theorem spot_none {W : World} {a : Addr} {u : Value} (h : W.cell? a = some u) : a = ⟨a.block, a.off, none⟩ := by
  obtain ⟨b, o, s⟩ := a
  unfold World.cell? at h
  simp only at h
  split at h
  · cases s with
    | none => rfl
    | some n => simp at h
  · cases h

theorem monos_of_trod {H : Type} {enc : TypeId × Value → H} {W : World} {fuel : Nat} {v : Value} {x : DataW H × List MemPlace}
    (hf : DataW.trod enc Tryd.prog W 0 (fun _ => true) true fuel 40 [v] = some x) : ∃ ms, Monos W v ms := by
  rcases open_slice_pairs Tryd.underlying40 Tryd.underlying57 (by kernel_rfl) rfl rfl (by kernel_rfl) (by kernel_rfl) hf with ⟨hcs, _⟩ | ⟨a, len, cap, m, n, V0, V1, D0, D1, P0, P1, hcs, _, hl, hm, hmm, _, hx⟩
  · simp at hcs
    subst hcs
    exact ⟨[], none, 0, rfl, by simp, by simp [maxLen], fun k u hk => by simp at hk⟩
  · simp at hcs
    subst hcs
    simp only [if_true] at hmm
    have hmm' := hmm.symm
    subst hmm'
    have each : ∀ i, i < len → ∃ q : Mono, V0 i = .int .i64 q.1 ∧ In64 q.1 ∧ Ints W (V1 i) q.2 := by
      intro i hi
      obtain ⟨-, -, h0, h1⟩ := hx i (by omega)
      obtain ⟨z, e0, -, wz⟩ := DataW.trod_int Tryd.underlying2 h0
      obtain ⟨zs, hzs⟩ := ints_of_trod h1
      simp at e0
      exact ⟨(z, zs), e0, in64_of_wf wz, hzs⟩
    obtain ⟨f, hq⟩ := choose_lt each
    refine ⟨(List.range len).map f, some a, cap, by simp, by simpa using hl, hm, fun k q hk => ?_⟩
    have hk' : k < len := by simpa using (List.getElem?_eq_some_iff.1 hk).1
    simp [hk'] at hk
    subst hk
    obtain ⟨e0, h64, hI⟩ := hq k hk'
    obtain ⟨c0, c1, -, -⟩ := hx k (by omega)
    have ha := spot_none (hx 0 (by omega)).1
    simp only [Nat.zero_mul, Addr.add, if_true] at ha
    refine ⟨a.block, a.off, V1 k, by rw [← ha], h64, hI, ?_, ?_⟩
    · rw [e0] at c0
      rw [← c0]
      congr 1
      rw [ha]
      try (by_cases hk0 : k * 2 = 0 <;> simp [Addr.add, hk0])
    · rw [← c1]
      congr 1

theorem mrows_of_trod {H : Type} {enc : TypeId × Value → H} {W : World} {fuel : Nat} {v : Value} {x : DataW H × List MemPlace}
    (hf : DataW.trod enc Tryd.prog W 0 (fun _ => true) true fuel 22 [v] = some x) : ∃ pss, MRows W v pss := by
  rcases open_slice1 Tryd.underlying22 (by kernel_rfl) hf with ⟨hcs, _⟩ | ⟨a, len, cap, m, n, V, D, Pl, hcs, _, hl, hm, hmm, _, hx⟩
  · simp at hcs
    subst hcs
    exact ⟨[], [], ⟨none, 0, rfl, by simp, by simp [maxLen], fun k u hk => by simp at hk⟩, rfl, fun k u x hu => by simp at hu⟩
  · simp at hcs
    subst hcs
    simp only [if_true] at hmm
    have hmm' := hmm.symm
    subst hmm'
    have each : ∀ i, i < len → ∃ ms : List Mono, Monos W (V i) ms := fun i hi => monos_of_trod (hx i (by omega)).2
    obtain ⟨f, hq⟩ := choose_lt each
    refine ⟨(List.range len).map f, (List.range len).map V, ⟨some a, cap, by simp, by simpa using hl, hm, fun k u hk => ⟨a, rfl, ?_⟩⟩, by simp, fun k u ms hu hz => ?_⟩
    · have hk' : k < len := by simpa using (List.getElem?_eq_some_iff.1 hk).1
      simp [hk'] at hk
      subst hk
      exact (hx k (by omega)).1
    · have hk' : k < len := by simpa using (List.getElem?_eq_some_iff.1 hu).1
      simp [hk'] at hu hz
      subst hu; subst hz
      exact hq k hk'

theorem open_field {H : Type} {enc : TypeId × Value → H} {W : World} {base : Nat} {v : Value} {d : DataW H} {p : List MemPlace}
    (hv : Value.okWide Tryd.prog W .any base 24 v) (h : DataW.Trod enc Tryd.prog W 0 (fun _ => true) true 24 v d p) : ∃ d : Int × List (List Mono), FieldArg W v d.1 d.2 := by
  obtain ⟨c0, c1, y0, y1, m, rfl, rfl, rfl, hy0, hy1⟩ := open_agg2 Tryd.underlying24 (by kernel_rfl) (by kernel_rfl) hv h
  obtain ⟨z, e0, -, wz⟩ := DataW.trod_int Tryd.underlying2 hy0
  obtain ⟨pss, hp⟩ := mrows_of_trod hy1
  simp at e0
  subst e0
  exact ⟨(z, pss), c1, rfl, in64_of_wf wz, hp⟩

end Go.Proofs.YtnnfjjadehgmeaaDoor

