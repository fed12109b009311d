/- The laws' helpers: the sizes of fields. -/
import Derived.Test.YtgnmnpjbmdifbaaFld4
set_option maxRecDepth 100000
set_option linter.unusedVariables false
set_option linter.unusedSimpArgs false
namespace Go.Proofs.Ytgnmnpjbmdifbaa
open Go.RowKit

def szMR : Int → List (List Mono) → Int
  | left, [] => left
  | left, ms :: r => if szMs left ms < 0 then -1 else szMR (szMs left ms) r
def szMM (left : Int) (pss : List (List Mono)) : Int := if left - pss.length < 0 then -1 else szMR (left - pss.length) pss
theorem szMs_le {left : Int} {ms : List Mono} (h : 0 ≤ szMs left ms) : szMs left ms ≤ left ∧ (ms.length : Int) ≤ left ∧ ∀ m ∈ ms, (m.2.length : Int) ≤ left := by
  unfold szMs at h ⊢
  split at h
  · omega
  · rename_i h1
    rw [if_neg h1]
    have h2 := szR_le h
    refine ⟨by omega, by omega, fun m hm => ?_⟩
    have := h2.2 m.2 (List.mem_map.2 ⟨m, hm, rfl⟩)
    omega
theorem szMR_drop {left : Int} {pss : List (List Mono)} {k : Nat} {ms : List Mono} (h : pss[k]? = some ms) : szMR left (pss.drop k) = if szMs left ms < 0 then -1 else szMR (szMs left ms) (pss.drop (k + 1)) := by
  have hk := (List.getElem?_eq_some_iff.1 h).1
  rw [List.drop_eq_getElem_cons hk]
  have e : pss[k] = ms := by rw [List.getElem?_eq_getElem hk] at h; simpa using h
  rw [e, szMR]
theorem szMR_le : ∀ {pss : List (List Mono)} {left : Int}, 0 ≤ szMR left pss → szMR left pss ≤ left ∧ ∀ ms ∈ pss, (ms.length : Int) ≤ left ∧ ∀ m ∈ ms, (m.2.length : Int) ≤ left
  | [], left, h => ⟨Int.le_refl _, fun ms hm => by simp at hm⟩
  | ms :: r, left, h => by
    unfold szMR at h ⊢
    split at h
    · omega
    · rename_i h1
      rw [if_neg h1]
      have h2 := szMs_le (left := left) (ms := ms) (by omega)
      have h3 := szMR_le (pss := r) h
      refine ⟨by omega, fun xs hx => ?_⟩
      rcases List.mem_cons.1 hx with rfl | hx
      · exact ⟨h2.2.1, h2.2.2⟩
      · have := h3.2 xs hx
        exact ⟨by omega, fun m hm => by have := this.2 m hm; omega⟩

set_option maxHeartbeats 2000000 in
theorem l_szMonomialSS (w : World) (v : Value) (pss : List (List Mono)) (left : Int) (ha : MRows w v pss) (h0 : 0 ≤ left) (h1 : left ≤ 4294967296) :
    Calls Try.prog 58 #[v, .int .i64 left] w fun e w' => e = .returned (.int .i64 (szMM left pss)) ∧ Below w.heap.size w w' := by
  obtain ⟨A, c, rfl, g1, g2, g3⟩ := ha.open_
  have G3 := Lib.hid g3
  clear ha g3
  by_cases h : left - pss.length < 0
  · have HF := Lib.hid (show szMM left pss = -1 by simp [szMM, h])
    go_enter Try.func58, Try.ntmps58
    go_wp2
    go_ret
    exact ⟨ret_int HF.out.symm, Below.refl _ _⟩
  · have HF := Lib.hid (show szMM left pss = szMR (left - pss.length) pss by simp [szMM, h])
    go_enter Try.func58, Try.ntmps58
    go_wp2
    go_loopw [1, 5] (fun l i wr => ∃ (k : Nat) (m : Int), k ≤ pss.length ∧ i = .int .i64 k ∧ l = .int .i64 m ∧ 0 ≤ m ∧ m ≤ 4294967296 ∧ Hid (szMR m (pss.drop k) = szMR (left - pss.length) pss) ∧ Below w.heap.size w wr) (fun _ i _ => pss.length - (intOf i).toNat)
    case atStart => exact ⟨0, _, Nat.zero_le _, rfl, rfl, by omega, by omega, rfl, Below.refl _ _⟩
    case round =>
      obtain ⟨k, m, hk, rfl, rfl, hm0, hm1, hI, hb⟩ := hrel
      have HB := Lib.hid hb
      clear h h0 h1 hb
      by_cases hlt : k < pss.length
      · obtain ⟨ad, u, ms, rfl, hmk, hu, hc0⟩ := G3.out k hlt
        have HD := Lib.hid (szMR_drop (left := m) hmk)
        have hc : wr.cell? (ad.add k) = some u := by
          rw [HB.out.cell (by rw [block_add]; have := World.block_lt_of_cell? w _ hc0; rwa [block_add] at this)]; exact hc0
        have HU := Lib.hid (hu.below HB.out)
        clear hmk hu hc0
        by_cases hs : szMs m ms < 0
        · have HS := Lib.hid hs
          go_wp2_with (go_at_call 110; refine (l_szMonomialS _ _ ms _ HU.out (by omega) (by omega)).mono ?_; rintro e w5 ⟨rfl, hb5⟩)
          go_ret
          refine ⟨ret_int ?_, HB.out.trans (hb5.mono HB.out.size)⟩
          rw [HF.out, ← hI.out, HD.out, if_pos HS.out]
        · have hle := szMs_le (left := m) (ms := ms) (by omega)
          have hle1 := hle.1
          have HS := Lib.hid hs
          clear hle
          go_wp2_with (go_at_call 110; refine (l_szMonomialS _ _ ms _ HU.out (by omega) (by omega)).mono ?_; rintro e w5 ⟨rfl, hb5⟩)
          go_roundw
          case rel =>
            refine ⟨k + 1, _, by omega, by go_num, rfl, by omega, by omega, ?_, HB.out.trans (hb5.mono HB.out.size)⟩
            unfold Hid
            rw [← hI.out, HD.out, if_neg (by have := HS.out; omega)]
          case measure => simp [intOf]; omega
      · have : k = pss.length := by omega
        subst this
        go_wp2_with fail
        go_ret
        refine ⟨ret_int ?_, HB.out⟩
        rw [HF.out, ← hI.out, List.drop_length]
        rfl

def szFld (left : Int) (pss : List (List Mono)) : Int := if szMM left pss < 0 then -1 else szMM left pss
set_option maxHeartbeats 1000000 in
theorem l_szField (w : World) (v : Value) (n : Int) (pss : List (List Mono)) (left : Int) (ha : FieldArg w v n pss) (h0 : 0 ≤ left) (h1 : left ≤ 4294967296) :
    Calls Try.prog 18 #[v, .int .i64 left] w fun e w' => e = .returned (.int .i64 (szFld left pss)) ∧ Below w.heap.size w w' := by
  obtain ⟨u, rfl, hn, hu⟩ := ha
  have B0 := Lib.hid (below1 w (.cells #[.int .i64 n, u] 35))
  have HU := Lib.hid (hu.below B0.out)
  by_cases hs : szMM left pss < 0
  · have HS := Lib.hid (show szFld left pss = -1 by simp [szFld, hs])
    go_enter Try.func18, Try.ntmps18
    go_wp2_with (go_at_call 58; refine (l_szMonomialSS _ _ _ _ HU.out (by omega) (by omega)).mono ?_; rintro e w5 ⟨rfl, hb5⟩)
    go_ret
    exact ⟨ret_int HS.out.symm, B0.out.trans (hb5.mono B0.out.size)⟩
  · have HS := Lib.hid (show szFld left pss = szMM left pss by simp [szFld, hs])
    go_enter Try.func18, Try.ntmps18
    go_wp2_with (go_at_call 58; refine (l_szMonomialSS _ _ _ _ HU.out (by omega) (by omega)).mono ?_; rintro e w5 ⟨rfl, hb5⟩)
    go_ret
    exact ⟨ret_int HS.out.symm, B0.out.trans (hb5.mono B0.out.size)⟩
theorem szFld_short {left : Int} {pss : List (List Mono)} (h : 0 ≤ szFld left pss) (h1 : left ≤ 4294967296) : pss.length ≤ 4294967296 ∧ (∀ ms ∈ pss, ms.length ≤ 4294967296) ∧ ∀ ms ∈ pss, ∀ m ∈ ms, m.2.length ≤ 4294967296 := by
  unfold szFld at h
  split at h
  · omega
  · rename_i h2
    unfold szMM at h h2
    split at h
    · omega
    · have h3 := szMR_le h
      refine ⟨by omega, fun ms hm => ?_, fun ms hm m hm2 => ?_⟩
      · have := (h3.2 ms hm).1; omega
      · have := (h3.2 ms hm).2 m hm2; omega
end Go.Proofs.Ytgnmnpjbmdifbaa
