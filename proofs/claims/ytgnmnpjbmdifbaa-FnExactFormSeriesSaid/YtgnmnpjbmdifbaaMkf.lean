/- The laws' marking of fields. -/
import Derived.Test.YtgnmnpjbmdifbaaFld13
import Derived.Test.YtgnmnpjbmdifbaaFld5
import Derived.Test.YtgnmnpjbmdifbaaMark
set_option maxRecDepth 100000
set_option linter.unusedVariables false
set_option linter.unusedSimpArgs false
namespace Go.Proofs.Ytgnmnpjbmdifbaa
open Go.RowKit

def msTot : List Mono → Nat
  | [] => 0
  | m :: ms => 1 + m.2.length + msTot ms
theorem msTot_append (a b : List Mono) : msTot (a ++ b) = msTot a + msTot b := by
  induction a with
  | nil => simp [msTot]
  | cons m a ih => simp [msTot, ih]; omega
theorem msTot_take_succ {ms : List Mono} {j : Nat} {m : Mono} (h : ms[j]? = some m) : msTot (ms.take (j + 1)) = msTot (ms.take j) + (1 + m.2.length) := by
  rw [List.take_add_one, h, msTot_append]; simp [msTot]
theorem msTot_take_le (ms : List Mono) (j : Nat) : msTot (ms.take j) ≤ msTot ms := by
  conv => rhs; rw [← List.take_append_drop j ms]
  rw [msTot_append]; omega
def fTot : List (List Mono) → Nat
  | [] => 0
  | ms :: pss => msTot ms + fTot pss
theorem fTot_append (a b : List (List Mono)) : fTot (a ++ b) = fTot a + fTot b := by
  induction a with
  | nil => simp [fTot]
  | cons m a ih => simp [fTot, ih]; omega
theorem fTot_take_succ {pss : List (List Mono)} {j : Nat} {ms : List Mono} (h : pss[j]? = some ms) : fTot (pss.take (j + 1)) = fTot (pss.take j) + msTot ms := by
  rw [List.take_add_one, h, fTot_append]; simp [fTot]
theorem fTot_take_le (pss : List (List Mono)) (j : Nat) : fTot (pss.take j) ≤ fTot pss := by
  conv => rhs; rw [← List.take_append_drop j pss]
  rw [fTot_append]; omega
theorem msTot_eq (ms : List Mono) : msTot ms = ms.length + tot (ms.map (·.2)) := by
  induction ms with
  | nil => simp [msTot, tot]
  | cons m ms ih => simp only [msTot, ih, List.map_cons, tot_cons, List.length_cons]; omega
theorem szMs_tot {left : Int} {ms : List Mono} (h : 0 ≤ szMs left ms) : ((msTot ms : Nat) : Int) + szMs left ms ≤ left := by
  unfold szMs at h ⊢
  rw [msTot_eq]
  split at h
  · omega
  · rename_i h1
    rw [if_neg h1]
    have := szR_tot h
    push_cast
    omega
theorem szMR_tot : ∀ {pss : List (List Mono)} {left : Int}, 0 ≤ szMR left pss → ((fTot pss : Nat) : Int) + szMR left pss ≤ left
  | [], left, h => by simp [fTot, szMR]
  | ms :: r, left, h => by
    unfold szMR at h ⊢
    split at h
    · omega
    · rename_i h1
      rw [if_neg h1]
      have h2 := szMs_tot (by omega : 0 ≤ szMs left ms)
      have h3 := szMR_tot h
      rw [fTot]
      push_cast
      omega
theorem szFld_tot {left : Int} {pss : List (List Mono)} (h : 0 ≤ szFld left pss) : ((fTot pss : Nat) : Int) + szFld left pss ≤ left := by
  unfold szFld szMM at h ⊢
  by_cases h1 : left - pss.length < 0
  · simp [h1] at h
  · rw [if_neg h1] at h ⊢
    by_cases h2 : szMR (left - pss.length) pss < 0
    · rw [if_pos h2] at h; omega
    · rw [if_neg h2] at h ⊢
      have := szMR_tot (by omega : 0 ≤ szMR (left - pss.length) pss)
      omega

theorem oi_ne_mono {w : World} {B : Nat} {u : Value} {zs : List Int} {g : Nat} {cs : Array Value} (h : OwnInts w B tI u zs) (hb : Blk w g tM cs) : u.ownBlock ≠ some g := by
  rcases h.1.cases with ⟨rfl, _⟩ | ⟨g', cap, cur, rfl, _, _, hg, _⟩
  · simp [Value.ownBlock]
  · simp only [Value.ownBlock, ne_eq, Option.some.injEq]
    rintro rfl
    rw [show w.heap[g']? = _ from hb] at hg
    injection hg with hg
    injection hg with _ ht
    exact absurd ht (by decide)

/-- what is left to be marked of a list of monomials behind place j -/
structure MLeft (w : World) (B C g n j : Nat) (ms : List Mono) (us : List Value) : Prop where
  blk : ∃ cs : Array Value, Blk w g tM cs ∧ cs.size = n * 2 ∧ ∀ (i : Nat) (u : Value), j ≤ i → us[i]? = some u → cs[i * 2 + 1]? = some u
  pow : ∀ (i : Nat) (u : Value) (m : Mono), j ≤ i → us[i]? = some u → ms[i]? = some m → OI w B C tI u m.2

theorem MLeft.store {w : World} {B C g n j : Nat} {ms : List Mono} {us : List Value} (h : MLeft w B C g n j ms us) (u : Value) : MLeft (w.setCell ⟨g, j * 2, none⟩ u) B C g n j ms us := by
  obtain ⟨⟨cs, h1, h2, h3⟩, h4⟩ := h
  refine ⟨⟨_, h1.set_ (j * 2) u, by simpa using h2, fun i u' hi hu => ?_⟩, fun i u' m hi hu hm => ?_⟩
  · rw [Array.getElem?_setIfInBounds_ne (by omega)]
    exact h3 i u' hi hu
  · have ho := h4 i u' m hi hu hm
    refine ⟨⟨ho.1.1.of_block fun b hb => Below.heap_setCell w ⟨g, j * 2, none⟩ u b (fun e => oi_ne_mono ho.1 h1 (by rw [hb]; exact congrArg some e)), ho.1.2⟩, ho.2⟩

theorem MLeft.next {w w' : World} {B C g n j : Nat} {ms : List Mono} {us : List Value} {u : Value} {m : Mono} (h : MLeft w B C g n j ms us) (hu : us[j]? = some u) (hm : ms[j]? = some m) (hg : w.grownBy w' u.ownBlock)
    (hap : ∀ (i : Nat) (u' : Value), i ≠ j → us[i]? = some u' → Apart u' u) : MLeft w' B C g n (j + 1) ms us := by
  obtain ⟨⟨cs, h1, h2, h3⟩, h4⟩ := h
  refine ⟨⟨cs, (hg.block g h1.lt (fun e => oi_ne_mono (h4 j u m (Nat.le_refl _) hu hm).1 h1 e.symm)).trans h1, h2, fun i u' hi hu' => h3 i u' (by omega) hu'⟩, fun i u' m' hi hu' hm' => ?_⟩
  have ho := h4 i u' m' (by omega) hu' hm'
  exact ⟨ho.1.kept hg (hap i u' (by omega) hu'), ho.2⟩

set_option maxHeartbeats 1000000 in
theorem l_markMonomialS (w : World) (B C : Nat) (v : Value) (ms : List Mono) (k : Int) (ho : OM w B C v ms) (hn : msTot ms ≤ 4294967296) (h0 : 0 ≤ k) (h1 : k ≤ 4294967296) :
    Calls Try.prog 119 #[v, .int .i64 k] w fun e w' => e = .returned (.int .i64 (k + (msTot ms : Nat))) ∧ Chg B C w w' := by
  obtain ⟨g, us, rfl, a1, a2, a3, a4, a5, a6, a7⟩ := ho
  have HM := Lib.hid (show MLeft w B C g ms.length 0 ms us from by
    obtain ⟨cs, b1, b2, b3⟩ := a3
    refine ⟨⟨cs, b1, b2, fun i u _ hu => ?_⟩, fun i u m _ hu hm => a5.2.1 i u m.2 hu (by simp [hm])⟩
    have hi := (List.getElem?_eq_some_iff.1 hu).1
    exact (b3 i (ms[i]'(by omega)) u (List.getElem?_eq_getElem _) hu).2)
  have HAP := Lib.hid a5.2.2
  have HUL := Lib.hid a4
  have hml : ms.length ≤ 9223372036854775807 := by simpa [maxLen] using a6
  clear a3 a4 a5 a6 a7
  go_enter Try.func119, Try.ntmps119
  go_wp2_with fail
  go_loopw [1, 5] (fun x i wr => ∃ j : Nat, j ≤ ms.length ∧ i = .int .i64 j ∧ x = .int .i64 (k + (msTot (ms.take j) : Nat)) ∧ MLeft wr B C g ms.length j ms us ∧ Chg B C w wr) (fun _ i _ => ms.length - (intOf i).toNat)
  case atStart => exact ⟨0, Nat.zero_le _, rfl, by simp [msTot], HM.out, Chg.refl _ _ _⟩
  case round =>
    obtain ⟨j, hj, rfl, rfl, hl, hch⟩ := hrel
    clear HM
    have HM := Lib.hid hl
    have HC := Lib.hid hch
    clear hl hch
    by_cases hlt : j < ms.length
    · have hu : us[j]? = some (us[j]'(by rw [HUL.out]; exact hlt)) := List.getElem?_eq_getElem _
      have hz : ms[j]? = some (ms[j]'hlt) := List.getElem?_eq_getElem _
      generalize us[j]'(by rw [HUL.out]; exact hlt) = u at hu
      generalize ms[j]'hlt = m at hz
      have hoi := HM.out.pow j u m (Nat.le_refl _) hu hz
      obtain ⟨cs, b1, b2, b3⟩ := HM.out.blk
      have hle := msTot_take_le ms (j + 1)
      rw [msTot_take_succ hz] at hle
      have HS := Lib.hid (msTot_take_succ hz)
      have c1 : wr.cell? ⟨g, j * 2, none⟩ = some (cs[j * 2]'(by omega)) := by rw [b1.cell]; exact Array.getElem?_eq_getElem _
      have c2 := b1.frozen (j * 2)
      have c3 : ∀ x, (wr.setCell ⟨g, j * 2, none⟩ x).cell? ⟨g, j * 2 + 1, none⟩ = some u := fun x => by
        rw [World.cell?_setCell_other _ _ _ _ (by intro e; simp only [Addr.mk.injEq] at e; omega), b1.cell]
        exact b3 j u (Nat.le_refl _) hu
      have HBL := Lib.hid b1.lt
      generalize (cs[j * 2]'(by omega)) = old at c1
      have HZ := Lib.hid hz
      have HU := Lib.hid hu
      have hjj : (j : Int) < (ms.length : Int) := by omega
      clear hz hu hoi b1 b2 b3
      generalize msTot (ms.take j) = t at hle HS ⊢
      go_wp2_with fail
      have HM1 := Lib.hid (HM.out.store (.int .i64 (k + (t : Int))))
      have HC1 := Lib.hid (HC.out.setCell (p := ⟨g, j * 2, none⟩) (by exact a1) (by exact a2) (.int .i64 (k + (t : Int))))
      clear HM HC c1 c2 c3
      generalize (wr.setCell ⟨g, j * 2, none⟩ (.int .i64 (k + (t : Int)))) = w1 at HM1 HC1 ⊢
      have HOI := Lib.hid (HM1.out.pow j u m (Nat.le_refl _) HU.out HZ.out)
      refine (l_markInt64S _ B u m.2 (k + (t : Int) + 1) HOI.out.1 (by omega) (by omega) (by omega)).mono ?_
      rintro e w2 ⟨rfl, -, hgr1, -⟩
      have HG := Lib.hid hgr1
      clear hgr1
      go_wp2_with fail
      go_roundw
      case rel =>
        refine ⟨j + 1, by omega, by go_num, by rw [HS.out]; push_cast; go_num, HM1.out.next HU.out HZ.out HG.out (fun i u' hne hu' => by rcases Nat.lt_or_gt_of_ne hne with h | h; exact HAP.out i j u' u h hu' HU.out; exact (HAP.out j i u u' h HU.out hu').symm), HC1.out.trans (Chg.of_grown HG.out fun b hb => ⟨HOI.out.1.1.ge b hb, HOI.out.2 b hb⟩)⟩
      case measure => simp [intOf]; omega
    · have : j = ms.length := by omega
      subst this
      go_wp2_with fail
      go_ret
      exact ⟨ret_int (by rw [List.take_length]), HC.out⟩

theorem OMF.drop_cons {w : World} {C lo : Nat} {vs : List Value} {pss : List (List Mono)} {j : Nat} {u : Value} {ms : List Mono} (h : OMF w lo C (vs.drop j) (pss.drop j)) (hu : vs[j]? = some u) (hm : pss[j]? = some ms) :
    ∃ M, OM w lo M u ms ∧ OMF w M C (vs.drop (j + 1)) (pss.drop (j + 1)) := by
  have h1 := (List.getElem?_eq_some_iff.1 hu).1
  have h2 := (List.getElem?_eq_some_iff.1 hm).1
  rw [List.drop_eq_getElem_cons h1, List.drop_eq_getElem_cons h2] at h
  obtain ⟨M, a, b⟩ := h
  have e1 : vs[j] = u := by rw [List.getElem?_eq_getElem h1] at hu; simpa using hu
  have e2 : pss[j] = ms := by rw [List.getElem?_eq_getElem h2] at hm; simpa using hm
  rw [e1, e2] at a
  exact ⟨M, a, b⟩

set_option maxHeartbeats 1000000 in
theorem l_markMonomialSS (w : World) (B C : Nat) (v : Value) (pss : List (List Mono)) (k : Int) (ho : OF w B C v pss) (hn : fTot pss ≤ 1073741824) (h0 : 0 ≤ k) (h1 : k ≤ 1073741824) :
    Calls Try.prog 71 #[v, .int .i64 k] w fun e w' => e = .returned (.int .i64 (k + (fTot pss : Nat))) ∧ Chg B C w w' := by
  obtain ⟨vs, g, rfl, a1, a2, a3⟩ := ho
  have HV := Lib.hid a3.len
  have hgC : g + 1 ≤ C := a3.le
  have HO := Lib.hid a2
  have HF := Lib.hid a3
  have hpl : pss.length ≤ 9223372036854775807 := by
    obtain ⟨A, c, e, h, h'⟩ := a2.cells.open_
    rw [HV.out] at e h
    omega
  clear a2 a3
  go_enter Try.func71, Try.ntmps71
  go_wp2_with fail
  go_loopw [1, 5] (fun x i wr => ∃ (j lo : Nat), j ≤ pss.length ∧ i = .int .i64 j ∧ x = .int .i64 (k + (fTot (pss.take j) : Nat)) ∧ g + 1 ≤ lo ∧ OMF wr lo C (vs.drop j) (pss.drop j) ∧ Own wr B tMs (.slice (some ⟨g, 0, none⟩) pss.length pss.length) vs ∧ Chg (g + 1) C w wr) (fun _ i _ => pss.length - (intOf i).toNat)
  case atStart => exact ⟨0, g + 1, Nat.zero_le _, rfl, by simp [fTot], Nat.le_refl _, by simpa using HF.out, HO.out, Chg.refl _ _ _⟩
  case round =>
    obtain ⟨j, lo, hj, rfl, rfl, hlo, hf, hown, hch⟩ := hrel
    clear HF HO
    have HF := Lib.hid hf
    have HO := Lib.hid hown
    have HC := Lib.hid hch
    clear hf hch hown
    by_cases hlt : j < pss.length
    · have hu : vs[j]? = some (vs[j]'(by rw [HV.out]; exact hlt)) := List.getElem?_eq_getElem _
      have hz : pss[j]? = some (pss[j]'hlt) := List.getElem?_eq_getElem _
      generalize vs[j]'(by rw [HV.out]; exact hlt) = u at hu
      generalize pss[j]'hlt = ms at hz
      obtain ⟨M, hom, hrest⟩ := HF.out.drop_cons hu hz
      have HOM := Lib.hid hom
      have HR := Lib.hid hrest
      have hc : wr.cell? ⟨g, j, none⟩ = some u := by
        obtain ⟨ad, n', c', he, hc⟩ := HO.out.cells.at_ hu
        simp only [Value.slice.injEq, Option.some.injEq] at he
        obtain ⟨rfl, -, -⟩ := he
        simpa [Addr.add] using (by by_cases h : j = 0 <;> simp_all [Addr.add] : wr.cell? ⟨g, j, none⟩ = some u)
      have hle := fTot_take_le pss (j + 1)
      rw [fTot_take_succ hz] at hle
      have HS := Lib.hid (fTot_take_succ hz)
      have hjj : (j : Int) < (pss.length : Int) := by omega
      clear hu hz hom hrest
      generalize fTot (pss.take j) = t at hle HS ⊢
      go_wp2_with fail
      refine (l_markMonomialS _ lo M u ms (k + (t : Int)) HOM.out (by omega) (by omega) (by omega)).mono ?_
      rintro e w2 ⟨rfl, hc2⟩
      have HC2 := Lib.hid hc2
      have hM := HOM.out.lt
      have hMC := HR.out.le
      clear hc2 hc
      go_wp2_with fail
      go_roundw
      case rel =>
        refine ⟨j + 1, M, by omega, by go_num, by rw [HS.out]; push_cast; go_num, by omega, HR.out.kept HC2.out (.inr (Nat.le_refl _)), ?_, HC.out.trans (HC2.out.mono hlo hMC)⟩
        exact HO.out.of_block fun b hb => HC2.out.block b (HO.out.lt b hb) (by simp [Value.ownBlock] at hb; omega)
      case measure => simp [intOf]; omega
    · have : j = pss.length := by omega
      subst this
      go_wp2_with fail
      go_ret
      exact ⟨ret_int (by rw [List.take_length]), HC.out.mono (by omega) (Nat.le_refl _)⟩

set_option maxHeartbeats 1000000 in
theorem l_markField (w : World) (B C : Nat) (n : Int) (u : Value) (pss : List (List Mono)) (k : Int) (ho : OF w B C u pss) (hC : C ≤ w.heap.size) (hn : fTot pss ≤ 1073741824) (h0 : 0 ≤ k) (h1 : k ≤ 1073741824) :
    Calls Try.prog 28 #[.agg #[.int .i64 n, u], .int .i64 k] w fun e w' => e = .returned (.int .i64 (k + (fTot pss : Nat))) ∧ Chg B C w w' := by
  have HO := Lib.hid (ho.below (below1 w (.cells #[.int .i64 n, u] 40)))
  obtain ⟨vs, g, rfl, -⟩ := ho
  have HC := Lib.hid ((Chg.refl B C w).trans (Chg.of_below (below1 w (.cells #[.int .i64 n, .slice (some ⟨g, 0, none⟩) pss.length pss.length] 40)) B C))
  go_enter Try.func28, Try.ntmps28
  go_wp2_with (go_at_call 71; refine (l_markMonomialSS _ B C _ pss k HO.out hn h0 h1).mono ?_; rintro e w2 ⟨rfl, hc2⟩)
  go_ret
  exact ⟨rfl, HC.out.trans hc2⟩
end Go.Proofs.Ytgnmnpjbmdifbaa
