/- The laws' helpers: the sizes of monomials. | The laws' helpers: the sizes of fields. | The laws' helper: equality of monomials. | The laws' helper: equality of lists of monomials. | The laws' helpers: equality of lists of lists of monomials, and of fields. | The laws' helper: a monomial made anew. | Owned lists of monomials: two cells an element. The laws' helper that makes them anew. -/
import Derived.Test.YtnnfjjadehgmeaaDoorFx3
import Derived.Test.YtnnfjjadehgmeaaDoorFx5
import Derived.Test.YtnnfjjadehgmeaaDoorFx2
import Derived.Deep.RegionLaw
import Derived.Laws.MakeOwn
set_option maxRecDepth 100000
set_option linter.unusedVariables false
set_option linter.unusedSimpArgs false
namespace Go.Proofs.YtnnfjjadehgmeaaDoor
open Go.RowKit

def szMs (left : Int) (ms : List Mono) : Int := if left - ms.length < 0 then -1 else szR (left - ms.length) (ms.map (·.2))

set_option maxHeartbeats 1000000 in
theorem l_szMonomial (w : World) (v : Value) (m : Mono) (left : Int) (ha : MonoArg w v m) (h0 : 0 ≤ left) (h1 : left ≤ 4294967296) :
    Calls Tryd.prog 30 #[v, .int .i64 left] w fun e w' => e = .returned (.int .i64 (szI left m.2.length)) ∧ Below w.heap.size w w' := by
  obtain ⟨u, rfl, hf, hu⟩ := ha
  have HU := Lib.hid (hu.below (below1 w (.cells #[.int .i64 m.1, u] 57)))
  have B0 := Lib.hid (below1 w (.cells #[.int .i64 m.1, u] 57))
  by_cases hs : szI left m.2.length < 0
  · have HS := Lib.hid (show szI left m.2.length = -1 by unfold szI at hs ⊢; split at hs <;> first | omega | (split <;> omega))
    go_enter Tryd.func30, Tryd.ntmps30
    go_wp2_with (go_at_call 44; refine (l_szInt64S _ _ _ _ HU.out (by omega) (by omega)).mono ?_; rintro e w' ⟨rfl, rfl⟩)
    go_ret
    exact ⟨ret_int HS.out.symm, B0.out⟩
  · go_enter Tryd.func30, Tryd.ntmps30
    go_wp2_with (go_at_call 44; refine (l_szInt64S _ _ _ _ HU.out (by omega) (by omega)).mono ?_; rintro e w' ⟨rfl, rfl⟩)
    go_ret
    exact ⟨rfl, B0.out⟩

set_option maxHeartbeats 2000000 in
theorem l_szMonomialS (w : World) (v : Value) (ms : List Mono) (left : Int) (ha : Monos w v ms) (h0 : 0 ≤ left) (h1 : left ≤ 4294967296) :
    Calls Tryd.prog 16 #[v, .int .i64 left] w fun e w' => e = .returned (.int .i64 (szMs left ms)) ∧ Below w.heap.size w w' := by
  obtain ⟨A, c, rfl, g1, g2, g3⟩ := ha.open_
  have G3 := Lib.hid g3
  clear ha g3
  by_cases h : left - ms.length < 0
  · have HF := Lib.hid (show szMs left ms = -1 by simp [szMs, h])
    go_enter Tryd.func16, Tryd.ntmps16
    go_wp2
    go_ret
    exact ⟨ret_int HF.out.symm, Below.refl _ _⟩
  · have HF := Lib.hid (show szMs left ms = szR (left - ms.length) (ms.map (·.2)) by simp [szMs, h])
    go_enter Tryd.func16, Tryd.ntmps16
    go_wp2
    go_loopw [1, 5] (fun l i wr => ∃ (k : Nat) (m : Int), k ≤ ms.length ∧ i = .int .i64 k ∧ l = .int .i64 m ∧ 0 ≤ m ∧ m ≤ 4294967296 ∧ Hid (szR m ((ms.map (·.2)).drop k) = szR (left - ms.length) (ms.map (·.2))) ∧ Below w.heap.size w wr) (fun _ i _ => ms.length - (intOf i).toNat)
    case atStart => exact ⟨0, _, Nat.zero_le _, rfl, rfl, by omega, by omega, rfl, Below.refl _ _⟩
    case round =>
      obtain ⟨k, m, hk, rfl, rfl, hm0, hm1, hI, hb⟩ := hrel
      have HB := Lib.hid hb
      clear h h0 h1 hb
      by_cases hlt : k < ms.length
      · obtain ⟨b, o, mm, u, rfl, hmk, hf64, hu, hcf, hcu⟩ := G3.out k hlt
        obtain ⟨f, ps⟩ := mm
        simp only at hf64 hu hcf hcu
        have HD := Lib.hid (szR_drop (left := m) (show (ms.map (·.2))[k]? = some ps by simp [hmk]))
        have hab : b < w.heap.size := World.block_lt_of_cell? w _ hcf
        have q0 : wr.cell? ⟨b, o + k * 2, none⟩ = some (.int .i64 f) := by rw [HB.out.cell (by exact hab)]; exact hcf
        have q1 : wr.cell? ⟨b, o + k * 2 + 1, none⟩ = some u := by rw [HB.out.cell (by exact hab)]; exact hcu
        have HMA := Lib.hid ((show MonoArg w (.agg #[.int .i64 f, u]) (f, ps) from ⟨_, rfl, hf64, hu⟩).below HB.out)
        clear hmk hf64 hu hcf hcu
        by_cases hs : szI m ps.length < 0
        · have HS := Lib.hid hs
          go_wp2_with (go_at_call 30; refine (l_szMonomial _ _ (f, ps) _ HMA.out (by omega) (by omega)).mono ?_; rintro e w5 ⟨rfl, hb5⟩)
          go_ret
          refine ⟨ret_int ?_, HB.out.trans (hb5.mono HB.out.size)⟩
          rw [HF.out, ← hI.out, HD.out, if_pos HS.out]
        · have hle := szI_le (left := m) (n := ps.length) (by omega)
          have HS := Lib.hid hs
          go_wp2_with (go_at_call 30; refine (l_szMonomial _ _ (f, ps) _ HMA.out (by omega) (by omega)).mono ?_; rintro e w5 ⟨rfl, hb5⟩)
          go_roundw
          case rel =>
            refine ⟨k + 1, _, by omega, by go_num, rfl, by omega, by omega, ?_, HB.out.trans (hb5.mono HB.out.size)⟩
            unfold Hid
            rw [← hI.out, HD.out, if_neg (by have := HS.out; omega)]
          case measure => simp [intOf]; omega
      · have : k = ms.length := by omega
        subst this
        go_wp2_with fail
        go_ret
        refine ⟨ret_int ?_, HB.out⟩
        rw [HF.out, ← hI.out, show (ms.map (·.2)).drop ms.length = [] from by simp]
        rfl
end Go.Proofs.YtnnfjjadehgmeaaDoor

set_option maxRecDepth 100000
set_option linter.unusedVariables false
set_option linter.unusedSimpArgs false
namespace Go.Proofs.YtnnfjjadehgmeaaDoor
open Go.RowKit

def szMR : Int → List (List Mono) → Int
  | left, [] => left
  | left, ms :: r => if szMs left ms < 0 then -1 else szMR (szMs left ms) r
def szMM (left : Int) (pss : List (List Mono)) : Int := if left - pss.length < 0 then -1 else szMR (left - pss.length) pss
theorem szMs_le {left : Int} {ms : List Mono} (h : 0 ≤ szMs left ms) : szMs left ms ≤ left ∧ (ms.length : Int) ≤ left ∧ ∀ m ∈ ms, (m.2.length : Int) ≤ left := by
  unfold szMs at h ⊢
  split at h
  · omega
  · rename_i h1
    rw [if_neg h1]
    have h2 := szR_le h
    refine ⟨by omega, by omega, fun m hm => ?_⟩
    have := h2.2 m.2 (List.mem_map.2 ⟨m, hm, rfl⟩)
    omega
theorem szMR_drop {left : Int} {pss : List (List Mono)} {k : Nat} {ms : List Mono} (h : pss[k]? = some ms) : szMR left (pss.drop k) = if szMs left ms < 0 then -1 else szMR (szMs left ms) (pss.drop (k + 1)) := by
  have hk := (List.getElem?_eq_some_iff.1 h).1
  rw [List.drop_eq_getElem_cons hk]
  have e : pss[k] = ms := by rw [List.getElem?_eq_getElem hk] at h; simpa using h
  rw [e, szMR]
theorem szMR_le : ∀ {pss : List (List Mono)} {left : Int}, 0 ≤ szMR left pss → szMR left pss ≤ left ∧ ∀ ms ∈ pss, (ms.length : Int) ≤ left ∧ ∀ m ∈ ms, (m.2.length : Int) ≤ left
  | [], left, h => ⟨Int.le_refl _, fun ms hm => by simp at hm⟩
  | ms :: r, left, h => by
    unfold szMR at h ⊢
    split at h
    · omega
    · rename_i h1
      rw [if_neg h1]
      have h2 := szMs_le (left := left) (ms := ms) (by omega)
      have h3 := szMR_le (pss := r) h
      refine ⟨by omega, fun xs hx => ?_⟩
      rcases List.mem_cons.1 hx with rfl | hx
      · exact ⟨h2.2.1, h2.2.2⟩
      · have := h3.2 xs hx
        exact ⟨by omega, fun m hm => by have := this.2 m hm; omega⟩

set_option maxHeartbeats 2000000 in
theorem l_szMonomialSS (w : World) (v : Value) (pss : List (List Mono)) (left : Int) (ha : MRows w v pss) (h0 : 0 ≤ left) (h1 : left ≤ 4294967296) :
    Calls Tryd.prog 9 #[v, .int .i64 left] w fun e w' => e = .returned (.int .i64 (szMM left pss)) ∧ Below w.heap.size w w' := by
  obtain ⟨A, c, rfl, g1, g2, g3⟩ := ha.open_
  have G3 := Lib.hid g3
  clear ha g3
  by_cases h : left - pss.length < 0
  · have HF := Lib.hid (show szMM left pss = -1 by simp [szMM, h])
    go_enter Tryd.func9, Tryd.ntmps9
    go_wp2
    go_ret
    exact ⟨ret_int HF.out.symm, Below.refl _ _⟩
  · have HF := Lib.hid (show szMM left pss = szMR (left - pss.length) pss by simp [szMM, h])
    go_enter Tryd.func9, Tryd.ntmps9
    go_wp2
    go_loopw [1, 5] (fun l i wr => ∃ (k : Nat) (m : Int), k ≤ pss.length ∧ i = .int .i64 k ∧ l = .int .i64 m ∧ 0 ≤ m ∧ m ≤ 4294967296 ∧ Hid (szMR m (pss.drop k) = szMR (left - pss.length) pss) ∧ Below w.heap.size w wr) (fun _ i _ => pss.length - (intOf i).toNat)
    case atStart => exact ⟨0, _, Nat.zero_le _, rfl, rfl, by omega, by omega, rfl, Below.refl _ _⟩
    case round =>
      obtain ⟨k, m, hk, rfl, rfl, hm0, hm1, hI, hb⟩ := hrel
      have HB := Lib.hid hb
      clear h h0 h1 hb
      by_cases hlt : k < pss.length
      · obtain ⟨ad, u, ms, rfl, hmk, hu, hc0⟩ := G3.out k hlt
        have HD := Lib.hid (szMR_drop (left := m) hmk)
        have hc : wr.cell? (ad.add k) = some u := by
          rw [HB.out.cell (by rw [block_add]; have := World.block_lt_of_cell? w _ hc0; rwa [block_add] at this)]; exact hc0
        have HU := Lib.hid (hu.below HB.out)
        clear hmk hu hc0
        by_cases hs : szMs m ms < 0
        · have HS := Lib.hid hs
          go_wp2_with (go_at_call 16; refine (l_szMonomialS _ _ ms _ HU.out (by omega) (by omega)).mono ?_; rintro e w5 ⟨rfl, hb5⟩)
          go_ret
          refine ⟨ret_int ?_, HB.out.trans (hb5.mono HB.out.size)⟩
          rw [HF.out, ← hI.out, HD.out, if_pos HS.out]
        · have hle := szMs_le (left := m) (ms := ms) (by omega)
          have hle1 := hle.1
          have HS := Lib.hid hs
          clear hle
          go_wp2_with (go_at_call 16; refine (l_szMonomialS _ _ ms _ HU.out (by omega) (by omega)).mono ?_; rintro e w5 ⟨rfl, hb5⟩)
          go_roundw
          case rel =>
            refine ⟨k + 1, _, by omega, by go_num, rfl, by omega, by omega, ?_, HB.out.trans (hb5.mono HB.out.size)⟩
            unfold Hid
            rw [← hI.out, HD.out, if_neg (by have := HS.out; omega)]
          case measure => simp [intOf]; omega
      · have : k = pss.length := by omega
        subst this
        go_wp2_with fail
        go_ret
        refine ⟨ret_int ?_, HB.out⟩
        rw [HF.out, ← hI.out, List.drop_length]
        rfl

def szFld (left : Int) (pss : List (List Mono)) : Int := if szMM left pss < 0 then -1 else szMM left pss
set_option maxHeartbeats 1000000 in
theorem l_szField (w : World) (v : Value) (n : Int) (pss : List (List Mono)) (left : Int) (ha : FieldArg w v n pss) (h0 : 0 ≤ left) (h1 : left ≤ 4294967296) :
    Calls Tryd.prog 4 #[v, .int .i64 left] w fun e w' => e = .returned (.int .i64 (szFld left pss)) ∧ Below w.heap.size w w' := by
  obtain ⟨u, rfl, hn, hu⟩ := ha
  have B0 := Lib.hid (below1 w (.cells #[.int .i64 n, u] 24))
  have HU := Lib.hid (hu.below B0.out)
  by_cases hs : szMM left pss < 0
  · have HS := Lib.hid (show szFld left pss = -1 by simp [szFld, hs])
    go_enter Tryd.func4, Tryd.ntmps4
    go_wp2_with (go_at_call 9; refine (l_szMonomialSS _ _ _ _ HU.out (by omega) (by omega)).mono ?_; rintro e w5 ⟨rfl, hb5⟩)
    go_ret
    exact ⟨ret_int HS.out.symm, B0.out.trans (hb5.mono B0.out.size)⟩
  · have HS := Lib.hid (show szFld left pss = szMM left pss by simp [szFld, hs])
    go_enter Tryd.func4, Tryd.ntmps4
    go_wp2_with (go_at_call 9; refine (l_szMonomialSS _ _ _ _ HU.out (by omega) (by omega)).mono ?_; rintro e w5 ⟨rfl, hb5⟩)
    go_ret
    exact ⟨ret_int HS.out.symm, B0.out.trans (hb5.mono B0.out.size)⟩
theorem szFld_short {left : Int} {pss : List (List Mono)} (h : 0 ≤ szFld left pss) (h1 : left ≤ 4294967296) : pss.length ≤ 4294967296 ∧ (∀ ms ∈ pss, ms.length ≤ 4294967296) ∧ ∀ ms ∈ pss, ∀ m ∈ ms, m.2.length ≤ 4294967296 := by
  unfold szFld at h
  split at h
  · omega
  · rename_i h2
    unfold szMM at h h2
    split at h
    · omega
    · have h3 := szMR_le h
      refine ⟨by omega, fun ms hm => ?_, fun ms hm m hm2 => ?_⟩
      · have := (h3.2 ms hm).1; omega
      · have := (h3.2 ms hm).2 m hm2; omega
end Go.Proofs.YtnnfjjadehgmeaaDoor

set_option maxRecDepth 100000
set_option linter.unusedVariables false
set_option linter.unusedSimpArgs false
namespace Go.Proofs.YtnnfjjadehgmeaaDoor
open Go.RowKit

set_option maxHeartbeats 1000000 in
theorem l_eqMonomial (w : World) (v v' : Value) (m m' : Mono) (ha : MonoArg w v m) (hb : MonoArg w v' m') :
    Calls Tryd.prog 43 #[v, v'] w fun e w' => e = .returned (.bool (decide (m = m'))) ∧ Below w.heap.size w w' := by
  obtain ⟨f, ps⟩ := m
  obtain ⟨f', ps'⟩ := m'
  obtain ⟨u, rfl, hf, hu⟩ := ha
  obtain ⟨u', rfl, hf', hu'⟩ := hb
  simp only at hf hu hf' hu' ⊢
  have BB := Lib.hid (below2 w (.cells #[.int .i64 f, u] 45) (.cells #[.int .i64 f', u'] 45))
  have HU := Lib.hid (hu.below BB.out)
  have HU' := Lib.hid (hu'.below BB.out)
  obtain ⟨A, c, rfl, -, -, -⟩ := hu.open_
  obtain ⟨A', c', rfl, -, -, -⟩ := hu'.open_
  clear hu hu'
  go_enter Tryd.func43, Tryd.ntmps43
  by_cases h : f = f'
  · have hb1 : (f != f') = false := by simp [h]
    have H := Lib.hid h
    clear h
    by_cases hp : ps = ps'
    · have HP := Lib.hid hp
      have hd : decide (ps = ps') = true := by simp [hp]
      clear hp
      go_wp2_with (go_at_call 50; refine (l_eqInt64S _ _ _ _ _ HU.out HU'.out).mono ?_; rintro e w1 ⟨rfl, n1, rfl⟩; rw [hd])
      go_ret
      exact ⟨ret_bool (by simp [H.out, HP.out]), below_drewN BB.out _⟩
    · have HP := Lib.hid hp
      have hd : decide (ps = ps') = false := by simp [hp]
      clear hp
      go_wp2_with (go_at_call 50; refine (l_eqInt64S _ _ _ _ _ HU.out HU'.out).mono ?_; rintro e w1 ⟨rfl, n1, rfl⟩; rw [hd])
      go_ret
      exact ⟨ret_bool (by simp [HP.out]), below_drewN BB.out _⟩
  · have hb1 : (f != f') = true := by simp [h]
    have H := Lib.hid h
    clear h
    go_wp2_with fail
    go_ret
    exact ⟨ret_bool (by simp [H.out]), BB.out⟩
end Go.Proofs.YtnnfjjadehgmeaaDoor

set_option maxRecDepth 100000
set_option linter.unusedVariables false
set_option linter.unusedSimpArgs false
namespace Go.Proofs.YtnnfjjadehgmeaaDoor
open Go.RowKit

theorem mtake_succ {α : Type} {xs ys : List α} {k : Nat} {x y : α} (h : xs.take k = ys.take k) (hx : xs[k]? = some x) (hy : ys[k]? = some y) (e : x = y) : xs.take (k + 1) = ys.take (k + 1) := by
  rw [List.take_add_one, List.take_add_one, h, hx, hy, e]

set_option maxHeartbeats 2000000 in
theorem l_eqMonomialS (w : World) (a b : Value) (xs ys : List Mono) (ha : Monos w a xs) (hb : Monos w b ys) :
    Calls Tryd.prog 29 #[a, b] w fun e w' => e = .returned (.bool (decide (xs = ys))) ∧ Below w.heap.size w w' := by
  obtain ⟨A, c, rfl, h1, h2, h3⟩ := ha.open_
  obtain ⟨B, d, rfl, g1, g2, g3⟩ := hb.open_
  clear ha hb
  have H3 := Lib.hid h3
  have G3 := Lib.hid g3
  clear h3 g3
  by_cases hl : xs.length = ys.length
  · have hl' : (((xs.length : Nat) : Int) != ((ys.length : Nat) : Int)) = false := by simp [hl]
    have HL := Lib.hid hl
    clear hl
    have g4 : ys.length ≤ xs.length := by rw [HL.out]; omega
    have g5 : xs.length ≤ ys.length := by rw [HL.out]; omega
    go_enter Tryd.func29, Tryd.ntmps29
    go_wp2
    go_loopw [5] (fun i wr => ∃ k : Nat, k ≤ xs.length ∧ i = .int .i64 k ∧ Hid (xs.take k = ys.take k) ∧ Below w.heap.size w wr) (fun i _ => xs.length - (intOf i).toNat)
    case atStart => exact ⟨0, Nat.zero_le _, rfl, rfl, Below.refl _ _⟩
    case round =>
      obtain ⟨k, hk, rfl, HT, hbw⟩ := hrel
      have HB := Lib.hid hbw
      clear hbw
      by_cases hlt : k < xs.length
      · obtain ⟨b1, o1, m1, u1, rfl, hx, hf1, hu1, hc1, hd1⟩ := H3.out k hlt
        obtain ⟨b2, o2, m2, u2, rfl, hy, hf2, hu2, hc2, hd2⟩ := G3.out k (by omega)
        obtain ⟨f1, p1⟩ := m1
        obtain ⟨f2, p2⟩ := m2
        simp only at hf1 hu1 hc1 hd1 hf2 hu2 hc2 hd2
        have hab1 : b1 < w.heap.size := World.block_lt_of_cell? w _ hc1
        have hab2 : b2 < w.heap.size := World.block_lt_of_cell? w _ hc2
        have q1 : wr.cell? ⟨b1, o1 + k * 2, none⟩ = some (.int .i64 f1) := by rw [HB.out.cell (by exact hab1)]; exact hc1
        have r1 : wr.cell? ⟨b1, o1 + k * 2 + 1, none⟩ = some u1 := by rw [HB.out.cell (by exact hab1)]; exact hd1
        have q2 : wr.cell? ⟨b2, o2 + k * 2, none⟩ = some (.int .i64 f2) := by rw [HB.out.cell (by exact hab2)]; exact hc2
        have r2 : wr.cell? ⟨b2, o2 + k * 2 + 1, none⟩ = some u2 := by rw [HB.out.cell (by exact hab2)]; exact hd2
        have M1 := Lib.hid ((show MonoArg w (.agg #[.int .i64 f1, u1]) (f1, p1) from ⟨_, rfl, hf1, hu1⟩).below HB.out)
        have M2 := Lib.hid ((show MonoArg w (.agg #[.int .i64 f2, u2]) (f2, p2) from ⟨_, rfl, hf2, hu2⟩).below HB.out)
        have HX := Lib.hid hx
        have HY := Lib.hid hy
        have hki : (k : Int) < (xs.length : Int) := by omega
        have hki2 : (k : Int) < (ys.length : Int) := by omega
        have hkn2 : k < ys.length := by omega
        clear hx hy hf1 hf2 hu1 hu2 hc1 hc2 hd1 hd2
        by_cases he : ((f1, p1) : Mono) = (f2, p2)
        · have hd : decide (((f1, p1) : Mono) = (f2, p2)) = true := decide_eq_true he
          have HE := Lib.hid he
          clear he
          go_wp2_with fail
          go_region_law (go_simp; go_at_call 43; refine (l_eqMonomial _ _ _ (f1, p1) (f2, p2) (by exact M1.out.below (Below.refl _ _).drew) (by exact M2.out.below (Below.refl _ _).drew)).mono ?_; rintro e w5 ⟨rfl, hb5⟩; rw [hd])
          all_goals
            have HB5 := Lib.hid (HB.out.trans ((below_of_drew hb5).mono HB.out.size))
            clear hb5 q1 q2 r1 r2
            go_wp2_with fail
            go_roundw
            case rel => exact ⟨k + 1, by omega, by go_num, mtake_succ HT.out HX.out HY.out HE.out, HB5.out⟩
            case measure => simp [intOf]; omega
        · have hd : decide (((f1, p1) : Mono) = (f2, p2)) = false := decide_eq_false he
          have HE := Lib.hid he
          clear he
          go_wp2_with fail
          go_region_law (go_simp; go_at_call 43; refine (l_eqMonomial _ _ _ (f1, p1) (f2, p2) (by exact M1.out.below (Below.refl _ _).drew) (by exact M2.out.below (Below.refl _ _).drew)).mono ?_; rintro e w5 ⟨rfl, hb5⟩; rw [hd])
          all_goals
            have HB5 := Lib.hid (HB.out.trans ((below_of_drew hb5).mono HB.out.size))
            clear hb5 q1 q2 r1 r2
            go_wp2_with fail
            go_ret
            refine ⟨ret_bool ?_, HB5.out⟩
            symm
            simp only [decide_eq_false_iff_not]
            rintro rfl
            have := HX.out.symm.trans HY.out
            simp only [Option.some.injEq] at this
            exact HE.out this
      · have : k = xs.length := by omega
        subst this
        go_wp2_with fail
        go_ret
        refine ⟨ret_bool ?_, HB.out⟩
        have e := HT.out
        rw [List.take_length, List.take_of_length_le (by omega)] at e
        simp [e]
  · have hl' : (((xs.length : Nat) : Int) != ((ys.length : Nat) : Int)) = true := by simp; omega
    have HL := Lib.hid hl
    clear hl
    go_enter Tryd.func29, Tryd.ntmps29
    go_wp2
    go_ret
    refine ⟨ret_bool ?_, Below.refl _ _⟩
    have := HL.out
    symm
    simp only [decide_eq_false_iff_not]
    rintro rfl
    exact this rfl
end Go.Proofs.YtnnfjjadehgmeaaDoor

set_option maxRecDepth 100000
set_option linter.unusedVariables false
set_option linter.unusedSimpArgs false
namespace Go.Proofs.YtnnfjjadehgmeaaDoor
open Go.RowKit

set_option maxHeartbeats 2000000 in
theorem l_eqMonomialSS (w : World) (a b : Value) (xs ys : List (List Mono)) (ha : MRows w a xs) (hb : MRows w b ys) :
    Calls Tryd.prog 15 #[a, b] w fun e w' => e = .returned (.bool (decide (xs = ys))) ∧ Below w.heap.size w w' := by
  obtain ⟨A, c, rfl, h1, h2, h3⟩ := ha.open_
  obtain ⟨B, d, rfl, g1, g2, g3⟩ := hb.open_
  clear ha hb
  have H3 := Lib.hid h3
  have G3 := Lib.hid g3
  clear h3 g3
  by_cases hl : xs.length = ys.length
  · have hl' : (((xs.length : Nat) : Int) != ((ys.length : Nat) : Int)) = false := by simp [hl]
    have HL := Lib.hid hl
    clear hl
    have g4 : ys.length ≤ xs.length := by rw [HL.out]; omega
    have g5 : xs.length ≤ ys.length := by rw [HL.out]; omega
    go_enter Tryd.func15, Tryd.ntmps15
    go_wp2
    go_loopw [5] (fun i wr => ∃ k : Nat, k ≤ xs.length ∧ i = .int .i64 k ∧ Hid (xs.take k = ys.take k) ∧ Below w.heap.size w wr) (fun i _ => xs.length - (intOf i).toNat)
    case atStart => exact ⟨0, Nat.zero_le _, rfl, rfl, Below.refl _ _⟩
    case round =>
      obtain ⟨k, hk, rfl, HT, hbw⟩ := hrel
      have HB := Lib.hid hbw
      clear hbw
      by_cases hlt : k < xs.length
      · obtain ⟨ad1, u1, m1, rfl, hx, hu1, hc1⟩ := H3.out k hlt
        obtain ⟨ad2, u2, m2, rfl, hy, hu2, hc2⟩ := G3.out k (by omega)
        have q1 : wr.cell? (ad1.add k) = some u1 := by rw [HB.out.cell (by rw [block_add]; have := World.block_lt_of_cell? w _ hc1; rwa [block_add] at this)]; exact hc1
        have q2 : wr.cell? (ad2.add k) = some u2 := by rw [HB.out.cell (by rw [block_add]; have := World.block_lt_of_cell? w _ hc2; rwa [block_add] at this)]; exact hc2
        have M1 := Lib.hid (hu1.below HB.out)
        have M2 := Lib.hid (hu2.below HB.out)
        have HX := Lib.hid hx
        have HY := Lib.hid hy
        have hki : (k : Int) < (xs.length : Int) := by omega
        have hki2 : (k : Int) < (ys.length : Int) := by omega
        have hkn2 : k < ys.length := by omega
        clear hx hy hu1 hu2 hc1 hc2
        by_cases he : m1 = m2
        · have hd : decide (m1 = m2) = true := decide_eq_true he
          have HE := Lib.hid he
          clear he
          go_wp2_with fail
          go_region_law (go_simp; go_at_call 29; refine (l_eqMonomialS _ _ _ m1 m2 (by exact M1.out.below (Below.refl _ _).drew) (by exact M2.out.below (Below.refl _ _).drew)).mono ?_; rintro e w5 ⟨rfl, hb5⟩; rw [hd])
          all_goals
            have HB5 := Lib.hid (HB.out.trans ((below_of_drew hb5).mono HB.out.size))
            clear hb5 q1 q2
            go_wp2_with fail
            go_roundw
            case rel => exact ⟨k + 1, by omega, by go_num, mtake_succ HT.out HX.out HY.out HE.out, HB5.out⟩
            case measure => simp [intOf]; omega
        · have hd : decide (m1 = m2) = false := decide_eq_false he
          have HE := Lib.hid he
          clear he
          go_wp2_with fail
          go_region_law (go_simp; go_at_call 29; refine (l_eqMonomialS _ _ _ m1 m2 (by exact M1.out.below (Below.refl _ _).drew) (by exact M2.out.below (Below.refl _ _).drew)).mono ?_; rintro e w5 ⟨rfl, hb5⟩; rw [hd])
          all_goals
            have HB5 := Lib.hid (HB.out.trans ((below_of_drew hb5).mono HB.out.size))
            clear hb5 q1 q2
            go_wp2_with fail
            go_ret
            refine ⟨ret_bool ?_, HB5.out⟩
            symm
            simp only [decide_eq_false_iff_not]
            rintro rfl
            have := HX.out.symm.trans HY.out
            simp only [Option.some.injEq] at this
            exact HE.out this
      · have : k = xs.length := by omega
        subst this
        go_wp2_with fail
        go_ret
        refine ⟨ret_bool ?_, HB.out⟩
        have e := HT.out
        rw [List.take_length, List.take_of_length_le (by omega)] at e
        simp [e]
  · have hl' : (((xs.length : Nat) : Int) != ((ys.length : Nat) : Int)) = true := by simp; omega
    have HL := Lib.hid hl
    clear hl
    go_enter Tryd.func15, Tryd.ntmps15
    go_wp2
    go_ret
    refine ⟨ret_bool ?_, Below.refl _ _⟩
    have := HL.out
    symm
    simp only [decide_eq_false_iff_not]
    rintro rfl
    exact this rfl

set_option maxHeartbeats 1000000 in
theorem l_eqField (w : World) (v v' : Value) (n n' : Int) (pss pss' : List (List Mono)) (ha : FieldArg w v n pss) (hb : FieldArg w v' n' pss') :
    Calls Tryd.prog 8 #[v, v'] w fun e w' => e = .returned (.bool (decide (n = n') && decide (pss = pss'))) ∧ Below w.heap.size w w' := by
  obtain ⟨u, rfl, hf, hu⟩ := ha
  obtain ⟨u', rfl, hf', hu'⟩ := hb
  have BB := Lib.hid (below2 w (.cells #[.int .i64 n, u] 30) (.cells #[.int .i64 n', u'] 30))
  have HU := Lib.hid (hu.below BB.out)
  have HU' := Lib.hid (hu'.below BB.out)
  obtain ⟨A, c, rfl, -, -, -⟩ := hu.open_
  obtain ⟨A', c', rfl, -, -, -⟩ := hu'.open_
  clear hu hu'
  go_enter Tryd.func8, Tryd.ntmps8
  by_cases h : n = n'
  · have hb1 : (n != n') = false := by simp [h]
    have H := Lib.hid h
    clear h
    by_cases hp : pss = pss'
    · have HP := Lib.hid hp
      have hd : decide (pss = pss') = true := by simp [hp]
      clear hp
      go_wp2_with (go_at_call 15; refine (l_eqMonomialSS _ _ _ _ _ HU.out HU'.out).mono ?_; rintro e w1 ⟨rfl, hb5⟩; rw [hd])
      go_ret
      exact ⟨ret_bool (by simp [H.out, HP.out]), BB.out.trans (hb5.mono BB.out.size)⟩
    · have HP := Lib.hid hp
      have hd : decide (pss = pss') = false := by simp [hp]
      clear hp
      go_wp2_with (go_at_call 15; refine (l_eqMonomialSS _ _ _ _ _ HU.out HU'.out).mono ?_; rintro e w1 ⟨rfl, hb5⟩; rw [hd])
      go_ret
      exact ⟨ret_bool (by simp [HP.out]), BB.out.trans (hb5.mono BB.out.size)⟩
  · have hb1 : (n != n') = true := by simp [h]
    have H := Lib.hid h
    clear h
    go_wp2_with fail
    go_ret
    exact ⟨ret_bool (by simp [H.out]), BB.out⟩
end Go.Proofs.YtnnfjjadehgmeaaDoor

set_option maxRecDepth 100000
set_option linter.unusedVariables false
set_option linter.unusedSimpArgs false
namespace Go.Proofs.YtnnfjjadehgmeaaDoor
open Go.RowKit

set_option maxHeartbeats 2000000 in
theorem l_toMonomial (w : World) (v : Value) (m : Mono) (ha : MonoArg w v m) (hn : m.2.length ≤ 4294967296) :
    Calls Tryd.prog 33 #[v] w fun e w' => ∃ u, e = .returned (.agg #[.int .i64 m.1, u]) ∧ OI w' w.heap.size w'.heap.size tI u m.2 ∧ Below w.heap.size w w' := by
  obtain ⟨f, ps⟩ := m
  obtain ⟨u, rfl, hf, hu⟩ := ha
  simp only at hf hu hn ⊢
  obtain ⟨A, c, rfl, -, -, -⟩ := hu.open_
  have HU := Lib.hid hu
  clear hu
  go_enter Tryd.func33, Tryd.ntmps33
  go_wp2_with fail
  have B0 := Lib.hid (below3 w (.cells #[.int .i64 f, .slice A ps.length c] 57) (.cells #[.int .i64 0, .slice none 0 0] 45) (.cells #[.int .i64 f, .slice none 0 0] 45))
  have K1 := Lib.hid ((Blk.new1 w (.cells #[.int .i64 f, .slice A ps.length c] 57) #[.int .i64 0, .slice none 0 0] 45).alloc (.cells #[.int .i64 f, .slice none 0 0] 45))
  have K2 := Lib.hid (Blk.new2 w (.cells #[.int .i64 f, .slice A ps.length c] 57) (.cells #[.int .i64 0, .slice none 0 0] 45) #[.int .i64 f, .slice none 0 0] 45)
  generalize (((w.alloc (.cells #[.int .i64 f, .slice A ps.length c] 57)).alloc (.cells #[.int .i64 0, .slice none 0 0] 45)).alloc (.cells #[.int .i64 f, .slice none 0 0] 45)) = w1 at B0 K1 K2 ⊢
  refine (l_toInt64S _ _ ps (HU.out.below B0.out) hn).mono ?_
  rintro e w2 ⟨v2, rfl, ho, hb⟩
  obtain ⟨A2, c2, hv, -, -, -⟩ := ho.ints.open_
  subst hv
  have X1 := Lib.hid (K1.out.below hb K1.out.lt)
  have X2 := Lib.hid (K2.out.below hb K2.out.lt)
  have BW := Lib.hid (B0.out.trans (hb.mono B0.out.size))
  have HO := Lib.hid ho
  have hl1 := K2.out.lt
  have e0 : w2.cell? ⟨w.heap.size + 1 + 1, 0, none⟩ = some (.int .i64 f) := X2.out.cell 0
  have e1 : w2.cell? ⟨w.heap.size + 1 + 1, 1, none⟩ = some (.slice none 0 0) := X2.out.cell 1
  have e2 := X2.out.frozen 1
  have f0 : w2.cell? ⟨w.heap.size + 1, 0, none⟩ = some (.int .i64 0) := X1.out.cell 0
  have f1 : w2.cell? ⟨w.heap.size + 1, 1, none⟩ = some (.slice none 0 0) := X1.out.cell 1
  have f2 := X1.out.frozen 0
  have f3 := X1.out.frozen 1
  clear ho hb
  go_wp2_with fail
  have c0 := Chg.refl (w.heap.size + 1) (w.heap.size + 1 + 1 + 1) w2
  have c1 := c0.setCell (p := ⟨w.heap.size + 1 + 1, 1, none⟩) (by simp) (by simp) (.slice A2 ps.length c2)
  have c2' := c1.setCell (p := ⟨w.heap.size + 1, 0, none⟩) (by simp) (by simp <;> omega) (.int .i64 f)
  have c3 := c2'.setCell (p := ⟨w.heap.size + 1, 1, none⟩) (by simp) (by simp <;> omega) (.slice A2 ps.length c2)
  have hoi : OI w2 w1.heap.size w2.heap.size tI (.slice A2 ps.length c2) ps := OI.of HO.out
  refine bodyPost_ret (v := .agg #[.int .i64 f, .slice A2 ps.length c2]) (by simp [results, Tryd.results33, go_sem, f0, f1]) rfl ⟨_, rfl, (hoi.kept c3 (.inr (by omega))).mono (by omega) c3.size, c3.below BW.out (by omega) BW.out.size⟩
end Go.Proofs.YtnnfjjadehgmeaaDoor

set_option maxRecDepth 100000
set_option linter.unusedVariables false
set_option linter.unusedSimpArgs false
namespace Go.Proofs.YtnnfjjadehgmeaaDoor
open Go.RowKit

abbrev tM : TypeId := 45
abbrev tMs : TypeId := 42

/-- block g has room for n monomials, and holds the first ones, whose powers lie at us -/
def MBlk (w : World) (g n : Nat) (ms : List Mono) (us : List Value) : Prop :=
  ∃ cs : Array Value, Blk w g tM cs ∧ cs.size = n * 2 ∧ ∀ (i : Nat) (m : Mono) (u : Value), ms[i]? = some m → us[i]? = some u → cs[i * 2]? = some (.int .i64 m.1) ∧ cs[i * 2 + 1]? = some u

section
variable {w w' : World} {g n B C B' C' : Nat} {ms : List Mono} {us : List Value} {v : Value}
theorem MBlk.lt (h : MBlk w g n ms us) : g < w.heap.size := by obtain ⟨cs, h1, -, -⟩ := h; exact h1.lt
theorem MBlk.of_block (h : MBlk w g n ms us) (hb : w'.heap[g]? = w.heap[g]?) : MBlk w' g n ms us := by
  obtain ⟨cs, h1, h2, h3⟩ := h
  exact ⟨cs, hb.trans h1, h2, h3⟩
theorem MBlk.below (h : MBlk w g n ms us) (hb : Below w.heap.size w w') : MBlk w' g n ms us := h.of_block (hb.block g h.lt)
theorem MBlk.room (h : MBlk w g n ms us) {k : Nat} (hk : k < n) : (∃ u, w.cell? ⟨g, k * 2, none⟩ = some u) ∧ (∃ u, w.cell? ⟨g, k * 2 + 1, none⟩ = some u) ∧ w.frozen? ⟨g, k * 2, none⟩ = false ∧ w.frozen? ⟨g, k * 2 + 1, none⟩ = false := by
  obtain ⟨cs, h1, h2, h3⟩ := h
  refine ⟨⟨cs[k * 2]'(by omega), ?_⟩, ⟨cs[k * 2 + 1]'(by omega), ?_⟩, h1.frozen _, h1.frozen _⟩
  · rw [h1.cell]; exact Array.getElem?_eq_getElem _
  · rw [h1.cell]; exact Array.getElem?_eq_getElem _
theorem MBlk.next (h : MBlk w g n ms us) (hu : us.length = ms.length) (hk : ms.length < n) (m : Mono) (u : Value) :
    MBlk ((w.setCell ⟨g, ms.length * 2, none⟩ (.int .i64 m.1)).setCell ⟨g, ms.length * 2 + 1, none⟩ u) g n (ms ++ [m]) (us ++ [u]) := by
  obtain ⟨cs, h1, h2, h3⟩ := h
  refine ⟨(cs.setIfInBounds (ms.length * 2) (.int .i64 m.1)).setIfInBounds (ms.length * 2 + 1) u, (h1.set_ _ _).set_ _ _, by simpa using h2, fun i m' u' hm hu' => ?_⟩
  have hi := (List.getElem?_eq_some_iff.1 hm).1
  simp only [List.length_append, List.length_singleton] at hi
  by_cases hlt : i < ms.length
  · rw [List.getElem?_append_left hlt] at hm
    rw [List.getElem?_append_left (by omega)] at hu'
    obtain ⟨a, b⟩ := h3 i m' u' hm hu'
    rw [Array.getElem?_setIfInBounds_ne (by omega), Array.getElem?_setIfInBounds_ne (by omega), Array.getElem?_setIfInBounds_ne (by omega), Array.getElem?_setIfInBounds_ne (by omega)]
    exact ⟨a, b⟩
  · have : i = ms.length := by omega
    subst this
    rw [List.getElem?_append_right (Nat.le_refl _)] at hm
    rw [List.getElem?_append_right (by omega), hu] at hu'
    simp at hm hu'
    subst hm; subst hu'
    rw [Array.getElem?_setIfInBounds_ne (by omega), Array.getElem?_setIfInBounds_self_of_lt (by omega), Array.getElem?_setIfInBounds_self_of_lt (by simp; omega)]
    exact ⟨rfl, rfl⟩
theorem MBlk.new (w : World) (z : Array Value) (n : Nat) : MBlk (w.alloc (.cells (madeCells z (n * 2)) tM)) w.heap.size n [] [] :=
  ⟨_, Blk.new w _ tM, size_madeCells _ _, fun i m u h => by simp at h⟩

/-- an owned list of monomials -/
def OM (w : World) (B C : Nat) (v : Value) (ms : List Mono) : Prop :=
  ∃ (g : Nat) (us : List Value), v = .slice (some ⟨g, 0, none⟩) ms.length ms.length ∧ B ≤ g ∧ g < C ∧ MBlk w g ms.length ms us ∧ us.length = ms.length ∧ RowsOwn w B C tI us (ms.map (·.2)) ∧ ms.length ≤ maxLen ∧ ∀ m ∈ ms, In64 m.1
theorem OM.below (h : OM w B C v ms) (hb : Below w.heap.size w w') : OM w' B C v ms := by
  obtain ⟨g, us, rfl, h1, h2, h3, h4, h5, h6, h7⟩ := h
  exact ⟨g, us, rfl, h1, h2, h3.below hb, h4, h5.below hb, h6, h7⟩
theorem OM.mono (h : OM w B C v ms) (h1 : B' ≤ B) (h2 : C ≤ C') : OM w B' C' v ms := by
  obtain ⟨g, us, rfl, a1, a2, a3, a4, a5, a6, a7⟩ := h
  exact ⟨g, us, rfl, by omega, by omega, a3, a4, a5.mono h1 h2, a6, a7⟩
theorem OM.kept (h : OM w B C v ms) (hc : Chg B' C' w w') (hd : C ≤ B' ∨ C' ≤ B) : OM w' B C v ms := by
  obtain ⟨g, us, rfl, a1, a2, a3, a4, a5, a6, a7⟩ := h
  exact ⟨g, us, rfl, a1, a2, a3.of_block (hc.block g a3.lt (by omega)), a4, a5.kept hc hd, a6, a7⟩
theorem OM.monos (h : OM w B C v ms) : Monos w v ms := by
  obtain ⟨g, us, rfl, a1, a2, ⟨cs, b1, b2, b3⟩, a4, a5, a6, a7⟩ := h
  refine ⟨_, _, rfl, Nat.le_refl _, a6, fun k m hm => ?_⟩
  have hk := (List.getElem?_eq_some_iff.1 hm).1
  have hu : us[k]? = some (us[k]'(by omega)) := List.getElem?_eq_getElem _
  obtain ⟨c1, c2⟩ := b3 k m _ hm hu
  refine ⟨g, 0, _, rfl, a7 m (List.mem_of_getElem? hm), (a5.2.1 k _ m.2 hu (by simp [hm])).ints, ?_, ?_⟩
  · rw [b1.cell, ← c1]; simp
  · rw [b1.cell, ← c2]; simp
end

theorem run_makeM (n : Nat) (hn : n < 1099511627776) (w : World) : (Instr.makeSlice tMs (.int .i64 (n : Int)) (.int .i64 (n : Int))).run Tryd.prog w = .ok (.slice (some ⟨w.heap.size, 0, none⟩) n n) (w.alloc (.cells (madeCells #[.int .i64 0, .slice none 0 0] (n * 2)) tM)) := by
  have hinfo : (Tryd.prog.info? tM).map (fun i => (i.zero, i.size, i.bytes)) = some (some (.agg #[.int .i64 0, .slice none 0 0]), 2, 32) := by kernel_rfl
  obtain ⟨i, hi, hzz⟩ := Option.map_eq_some_iff.1 hinfo
  simp only [Prod.mk.injEq] at hzz
  obtain ⟨hz, hs, hb⟩ := hzz
  have h := Go.run_make w tMs tM i _ Tryd.underlying42 hi hz .i64 .i64 n n (by omega) (Int.le_refl _) (by rw [hb]; omega) (by omega)
  rw [hs] at h
  simpa [Value.cells] using h

set_option maxHeartbeats 2000000 in
theorem l_toMonomialS (w : World) (a : Value) (ms : List Mono) (ha : Monos w a ms) (hn : ms.length ≤ 4294967296) (hs : ∀ m ∈ ms, m.2.length ≤ 4294967296) :
    Calls Tryd.prog 22 #[a] w fun e w' => ∃ v, e = .returned v ∧ OM w' w.heap.size w'.heap.size v ms ∧ Below w.heap.size w w' := by
  obtain ⟨A, c, rfl, h1, h2, h3⟩ := ha.open_
  have HI := Lib.hid (show ∀ m ∈ ms, In64 m.1 from fun m hm => by
    obtain ⟨k, hk, rfl⟩ := List.getElem_of_mem hm
    obtain ⟨b, o, m, u, -, hx, hf, -⟩ := h3 k hk
    rw [List.getElem?_eq_getElem hk] at hx
    injection hx with hx
    rw [hx]; exact hf)
  have HS := Lib.hid hs
  have H3 := Lib.hid h3
  clear h3 ha hs
  have hmk : ∀ W : World, (Instr.makeSlice tMs (.int .i64 (ms.length : Int)) (.int .i64 (ms.length : Int))).run Tryd.prog W = .ok (.slice (some ⟨W.heap.size, 0, none⟩) ms.length ms.length) (W.alloc (.cells (madeCells #[.int .i64 0, .slice none 0 0] (ms.length * 2)) tM)) := fun W => run_makeM _ (by omega) W
  have M0 := Lib.hid (MBlk.new w #[.int .i64 0, .slice none 0 0] ms.length)
  have B0 := Lib.hid (below1 w (.cells (madeCells #[.int .i64 0, .slice none 0 0] (ms.length * 2)) tM))
  go_enter Tryd.func22, Tryd.ntmps22
  go_wp2
  clear hmk
  generalize (w.alloc (.cells (madeCells #[.int .i64 0, .slice none 0 0] (ms.length * 2)) tM)) = w1 at M0 B0 ⊢
  go_loopw [4] (fun i wr => ∃ (k : Nat) (us : List Value), k ≤ ms.length ∧ i = .int .i64 k ∧ us.length = k ∧ MBlk wr w.heap.size ms.length (ms.take k) us ∧
    RowsOwn wr w.heap.size wr.heap.size tI us ((ms.take k).map (·.2)) ∧ Below w.heap.size w wr) (fun i _ => ms.length - (intOf i).toNat)
  case atStart => exact ⟨0, [], Nat.zero_le _, rfl, rfl, by simpa using M0.out, by simpa using RowsOwn.nil _ _ _ _, B0.out⟩
  case round =>
    obtain ⟨k, us, hk, rfl, hul, hm0, hrows, hb⟩ := hrel
    have HM := Lib.hid hm0
    have HR := Lib.hid hrows
    have HB := Lib.hid hb
    have HUL := Lib.hid hul
    clear hm0 hrows hb hul M0 B0
    by_cases hlt : k < ms.length
    · obtain ⟨b, o, m, u, rfl, hz, hf, hu, hc1, hc2⟩ := H3.out k hlt
      obtain ⟨f, ps⟩ := m
      simp only at hf hu hc1 hc2
      have hab : b < w.heap.size := World.block_lt_of_cell? w _ hc1
      have q1 : wr.cell? ⟨b, o + k * 2, none⟩ = some (.int .i64 f) := by rw [HB.out.cell (by exact hab)]; exact hc1
      have q2 : wr.cell? ⟨b, o + k * 2 + 1, none⟩ = some u := by rw [HB.out.cell (by exact hab)]; exact hc2
      have HMA := Lib.hid (show MonoArg wr (.agg #[.int .i64 f, u]) (f, ps) from ⟨_, rfl, hf, hu.below HB.out⟩)
      have hps := HS.out (f, ps) (List.mem_of_getElem? hz)
      have HZ := Lib.hid hz
      have hki : (k : Int) < (ms.length : Int) := by omega
      clear hz hu hc1 hc2
      go_wp2_with fail
      refine (l_toMonomial _ _ (f, ps) HMA.out hps).mono ?_
      rintro e w2 ⟨v2, rfl, ho2, hb2⟩
      simp only at ho2 ⊢
      obtain ⟨A2, c2, hv2, -, -, -⟩ := ho2.ints.open_
      subst hv2
      have HM2 := Lib.hid (HM.out.below hb2)
      obtain ⟨⟨u1, r1⟩, ⟨u2, r2⟩, r3, r4⟩ := HM2.out.room hlt
      have HB2 := Lib.hid hb2
      have HO2 := Lib.hid ho2
      have HSZ := Lib.hid HM.out.lt
      clear q1 q2 ho2 hb2
      have r2' : (w2.setCell ⟨w.heap.size, k * 2, none⟩ (.int .i64 f)).cell? ⟨w.heap.size, k * 2 + 1, none⟩ = some u2 := by
        rw [World.cell?_setCell_other _ _ _ _ (by intro e; simp only [Addr.mk.injEq] at e; omega)]; exact r2
      go_wp2_with fail
      clear r1 r2 r3 r4 r2'
      have htk : (ms.take k).length = k := by rw [List.length_take]; omega
      have HN := HM2.out.next (by rw [htk]; exact HUL.out) (by rw [htk]; exact hlt) (f, ps) (.slice A2 ps.length c2)
      rw [htk] at HN
      have hcg := ((Chg.refl w.heap.size (w.heap.size + 1) w2).setCell (p := ⟨w.heap.size, k * 2, none⟩) (Nat.le_refl _) (by simp) (.int .i64 f)).setCell (p := ⟨w.heap.size, k * 2 + 1, none⟩) (Nat.le_refl _) (by simp) (.slice A2 ps.length c2)
      have hs2 := HB2.out.size
      have hs1 := HB.out.size
      have hne : ∀ (j : Nat) (u' : Value), (us ++ [Value.slice A2 ps.length c2])[j]? = some u' → u'.ownBlock = none ∨ u'.ownBlock ≠ some w.heap.size := by
        intro j u' hu'
        have hty : ∀ (B' : Nat) (z : List Int), OwnInts w2 B' tI u' z → u'.ownBlock = none ∨ u'.ownBlock ≠ some w.heap.size := by
          intro B' z hoi
          obtain ⟨cs, k1, -, -⟩ := HM2.out
          rcases hoi.1.cases with ⟨e, _⟩ | ⟨g, cap, cur, e, _, _, hg, _⟩
          · exact .inl (by rw [e]; rfl)
          · refine .inr ?_
            rw [e]
            simp only [Value.ownBlock, ne_eq, Option.some.injEq]
            rintro rfl
            rw [show w2.heap[w.heap.size]? = _ from k1] at hg
            injection hg with hg
            injection hg with _ ht
            exact absurd ht (by decide)
        by_cases hj : j < us.length
        · rw [List.getElem?_append_left hj] at hu'
          have hx : ((ms.take k).map (·.2))[j]? = some (((ms.take k).map (·.2))[j]'(by rw [← HR.out.1]; exact hj)) := List.getElem?_eq_getElem _
          exact hty _ _ (((HR.out.below HB2.out).2.1 j u' _ hu' hx).1)
        · rw [List.getElem?_append_right (by omega)] at hu'
          have hj' := (List.getElem?_eq_some_iff.1 hu').1
          simp at hj'
          have : j - us.length = 0 := by omega
          rw [this] at hu'
          simp at hu'
          subst hu'
          exact hty _ _ HO2.out.1
      have hr2 := ((HR.out.below HB2.out).mono (Nat.le_refl _) hs2).snoc (u := .slice A2 ps.length c2) (zs := ps) (HO2.out.mono hs1 (Nat.le_refl _)) (fun j u' hu' => by
        have hx : ((ms.take k).map (·.2))[j]? = some (((ms.take k).map (·.2))[j]'(by rw [← HR.out.1]; exact (List.getElem?_eq_some_iff.1 hu').1)) := List.getElem?_eq_getElem _
        exact apart_of_lt (HR.out.2.1 j u' _ hu' hx).2 HO2.out.1.1.ge)
      have hgr : w2.grownBy ((w2.setCell ⟨w.heap.size, k * 2, none⟩ (.int .i64 f)).setCell ⟨w.heap.size, k * 2 + 1, none⟩ (.slice A2 ps.length c2)) (some w.heap.size) :=
        ⟨hcg.os, hcg.tape, hcg.output, hcg.size, fun b' hb' hne' => hcg.block b' hb' (by have : b' ≠ w.heap.size := fun e => hne' (by rw [e]); omega)⟩
      have hr3 := (hr2.other hgr hne).mono (Nat.le_refl _) hcg.size
      go_roundw
      case rel =>
        have htake : ms.take (k + 1) = ms.take k ++ [(f, ps)] := by rw [List.take_add_one, HZ.out]; simp
        refine ⟨k + 1, us ++ [.slice A2 ps.length c2], by omega, by go_num, by simp [HUL.out], ?_, ?_, hcg.below (HB.out.trans (HB2.out.mono hs1)) (Nat.le_refl _) (by omega)⟩
        · rw [htake]; exact HN
        · rw [htake, List.map_append]; exact hr3
      case measure => simp [intOf]; omega
    · have : k = ms.length := by omega
      subst this
      rw [List.take_length] at HM HR
      go_wp2_with fail
      go_ret
      exact ⟨_, rfl, ⟨_, us, rfl, Nat.le_refl _, HM.out.lt, HM.out, HUL.out, HR.out, by simp only [maxLen]; omega, HI.out⟩, HB.out⟩
end Go.Proofs.YtnnfjjadehgmeaaDoor

