/- Plain: tableaus as lists of rows: scaled, inverse, composed, adjoint ones and their characters; adjoining and inverting twice, adjoints of compositions. No walk. | Plain: repeated tableaus: the order is kept at least, once is the tableau. For lists. No walk. | append(s, make([]int64, k)...) at an owned list. No program in sight but for the types. | One round of 'z.A = append(z.A, row)', in plain words of memory. No program in sight. | One round of 'z.A = append(z.A, row); z.B = append(z.B, x)', in plain words of memory. No program in sight. -/
import Derived.Test.YtdjhfeaimmpmhaaGreatZc19
import Derived.Test.YtdjhfeaimmpmhaaGreatRows
import Derived.Test.YtdjhfeaimmpmhaaGreatZc3
import Derived.Lib.AppendZerosOnto
set_option maxRecDepth 100000
set_option linter.unusedVariables false
set_option linter.unusedSimpArgs false
namespace Go.Proofs.YtdjhfeaimmpmhaaGreat
open Go.RowKit

/-- a square tableau of numbers -/
structure SqT (A : List (List Int)) (B : List Int) (s : Nat) : Prop where
  la : A.length = s
  lb : B.length = s
  rows : ∀ r ∈ A, Nums r ∧ r.length = s
  ws : Nums B
def fT (A : List (List Int)) (i k : Nat) : Int := (A.getD i []).getD k 0
def fB (B : List Int) (i : Nat) : Int := B.getD i 0
def chT (A : List (List Int)) (B : List Int) : List Int := chF B.length (fT A) (fB B)
theorem getD_mapT {α β : Type} (f : α → β) {l : List α} {i : Nat} (h : i < l.length) (d : α) (e : β) : (l.map f).getD i e = f (l.getD i d) := by
  rw [List.getD_eq_getElem?_getD, List.getElem?_map, List.getD_eq_getElem?_getD, List.getElem?_eq_getElem h]
  rfl
theorem getD_mem {α : Type} {l : List α} {i : Nat} (h : i < l.length) (d : α) : l.getD i d ∈ l := by
  rw [List.getD_eq_getElem?_getD, List.getElem?_eq_getElem h]
  exact List.getElem_mem _
theorem list_extN {a b : List Int} (ha : Nums a) (hb : Nums b) (hl : a.length = b.length) (h : ∀ i, i < a.length → a.getD i 0 % 10007 = b.getD i 0 % 10007) : a = b := by
  refine List.ext_getElem hl fun i h1 h2 => ?_
  have e := h i h1
  have b1 := ha _ (getD_mem h1 0)
  have b2 := hb _ (getD_mem h2 0)
  have g1 : a.getD i 0 = a[i] := by rw [List.getD_eq_getElem?_getD, List.getElem?_eq_getElem h1]; rfl
  have g2 : b.getD i 0 = b[i] := by rw [List.getD_eq_getElem?_getD, List.getElem?_eq_getElem h2]; rfl
  rw [g1] at e b1
  rw [g2] at e b2
  omega
theorem SqT.row {A : List (List Int)} {B : List Int} {s : Nat} (h : SqT A B s) {i : Nat} (hi : i < s) : Nums (A.getD i []) ∧ (A.getD i []).length = s := h.rows _ (getD_mem (by rw [h.la]; exact hi) [])
theorem SqT.bd {A : List (List Int)} {B : List Int} {s : Nat} (h : SqT A B s) {i k : Nat} (hi : i < s) (hk : k < s) : 0 ≤ fT A i k ∧ fT A i k ≤ 10006 := (h.row hi).1 _ (getD_mem (by rw [(h.row hi).2]; exact hk) 0)
theorem SqT.bdB {A : List (List Int)} {B : List Int} {s : Nat} (h : SqT A B s) {i : Nat} (hi : i < s) : 0 ≤ fB B i ∧ fB B i ≤ 10006 := h.ws _ (getD_mem (by rw [h.lb]; exact hi) 0)
theorem tab_ext {A A' : List (List Int)} {B B' : List Int} {s : Nat} (h : SqT A B s) (h' : SqT A' B' s) (hA : ∀ i k, i < s → k < s → fT A i k % 10007 = fT A' i k % 10007) (hB : ∀ i, i < s → fB B i % 10007 = fB B' i % 10007) : A = A' ∧ B = B' := by
  refine ⟨List.ext_getElem (by rw [h.la, h'.la]) fun i h1 h2 => ?_, list_extN h.ws h'.ws (by rw [h.lb, h'.lb]) fun i hi => hB i (by rw [h.lb] at hi; exact hi)⟩
  have hi : i < s := by rw [h.la] at h1; exact h1
  have g1 : A.getD i [] = A[i] := by rw [List.getD_eq_getElem?_getD, List.getElem?_eq_getElem h1]; rfl
  have g2 : A'.getD i [] = A'[i] := by rw [List.getD_eq_getElem?_getD, List.getElem?_eq_getElem h2]; rfl
  rw [← g1, ← g2]
  exact list_extN (h.row hi).1 (h'.row hi).1 (by rw [(h.row hi).2, (h'.row hi).2]) fun k hk => hA i k hi (by rw [(h.row hi).2] at hk; exact hk)
/-! ### scaled -/
def sclT (k : Int) (A : List (List Int)) : List (List Int) := A.map (scl k)
theorem fB_scl (k : Int) (B : List Int) (i : Nat) : fB (scl k B) i % 10007 = fB B i * k % 10007 := by
  unfold fB scl
  rw [List.getD_eq_getElem?_getD, List.getElem?_map, List.getD_eq_getElem?_getD]
  cases B[i]? with
  | none => show (0 : Int) % 10007 = 0 * k % 10007; rw [Int.zero_mul]
  | some z => exact Int.emod_emod_of_dvd _ (Int.dvd_refl _)
theorem fT_scl (k : Int) {A : List (List Int)} {i : Nat} (hi : i < A.length) (j : Nat) : fT (sclT k A) i j % 10007 = fT A i j * k % 10007 := by
  unfold fT sclT
  rw [getD_mapT (scl k) hi []]
  exact fB_scl k _ j
theorem SqT.scl {A : List (List Int)} {B : List Int} {s : Nat} (h : SqT A B s) (k : Int) : SqT (sclT k A) (Go.Proofs.YtdjhfeaimmpmhaaGreat.scl k B) s := by
  refine ⟨by unfold sclT; rw [List.length_map, h.la], by rw [scl_len]; exact h.lb, fun r hr => ?_, scl_nums _ _⟩
  obtain ⟨x, hx, rfl⟩ := List.mem_map.1 hr
  exact ⟨scl_nums _ _, by rw [scl_len]; exact (h.rows x hx).2⟩
theorem chT_scl {A : List (List Int)} {B : List Int} {s : Nat} (h : SqT A B s) (k : Int) : chT (sclT k A) (scl k B) = scZ (chT A B) k := by
  unfold chT
  rw [scl_len, ← chF_scale]
  exact chF_mod (fun i j hi hj => fT_scl k (by rw [h.la, ← h.lb]; exact hi) j) fun i hi => fB_scl k B i
/-! ### inverse -/
def invT (A : List (List Int)) (B : List Int) : List (List Int) := A.map fun r => addk 10006 r B
theorem fT_inv {A : List (List Int)} {B : List Int} {s : Nat} (h : SqT A B s) {i j : Nat} (hi : i < s) (hj : j < s) : fT (invT A B) i j % 10007 = (fT A i j - fB B j) % 10007 := by
  unfold fT invT fB
  rw [getD_mapT (fun r => addk 10006 r B) (by rw [h.la]; exact hi) []]
  have hl := (h.row hi).2
  generalize A.getD i [] = r at hl ⊢
  unfold addk addTo
  rw [getD_mapT (fun i => (r.getD i 0 + 10006 * B.getD i 0) % 10007) (by rw [List.length_range, hl]; exact hj) 0]
  have : (List.range r.length).getD j 0 = j := by rw [List.getD_eq_getElem?_getD, List.getElem?_range (by omega)]; rfl
  rw [this]
  generalize r.getD j 0 = x
  generalize B.getD j 0 = y
  omega
theorem SqT.inv {A : List (List Int)} {B : List Int} {s : Nat} (h : SqT A B s) : SqT (invT A B) (Go.Proofs.YtdjhfeaimmpmhaaGreat.scl 10006 B) s := by
  refine ⟨by unfold invT; rw [List.length_map, h.la], by rw [scl_len]; exact h.lb, fun r hr => ?_, scl_nums _ _⟩
  obtain ⟨x, hx, rfl⟩ := List.mem_map.1 hr
  exact ⟨addTo_nums _ _ _ _, by unfold addk; rw [addTo_len]; exact (h.rows x hx).2⟩
theorem fB_neg (B : List Int) (i : Nat) : fB (scl 10006 B) i % 10007 = (- fB B i) % 10007 := by
  rw [fB_scl]
  generalize fB B i = x
  omega
theorem chT_inv {A : List (List Int)} {B : List Int} {s : Nat} (h : SqT A B s) : chT (invT A B) (scl 10006 B) = iv (chT A B) := by
  unfold chT
  rw [scl_len, ← chF_inv]
  refine chF_mod (fun i j hi hj => ?_) fun i hi => fB_neg B i
  rw [h.lb] at hi hj
  exact fT_inv h hi hj
theorem inv_inv {A : List (List Int)} {B : List Int} {s : Nat} (h : SqT A B s) : invT (invT A B) (scl 10006 B) = A ∧ scl 10006 (scl 10006 B) = B := by
  refine tab_ext h.inv.inv h (fun i k hi hk => ?_) fun i hi => ?_
  · have e1 := fT_inv h.inv hi hk
    have e2 := fT_inv h hi hk
    have e3 := fB_neg B k
    rw [e1]
    generalize fT (invT A B) i k = x at e2 ⊢
    generalize fB (scl 10006 B) k = y at e3 ⊢
    generalize fT A i k = u at e2 ⊢
    generalize fB B k = v at e2 e3
    omega
  · have e1 := fB_neg (scl 10006 B) i
    have e2 := fB_neg B i
    rw [e1]
    generalize fB (scl 10006 B) i = y at e2 ⊢
    generalize fB B i = v at e2 ⊢
    omega
/-! ### composed -/
def jnT (A1 : List (List Int)) (B1 : List Int) (A2 : List (List Int)) (B2 : List Int) : List (List Int) := A1.map (fun r => r ++ List.replicate B2.length 0) ++ A2.map (fun r => B1 ++ r)
theorem SqT.cmp {A1 A2 : List (List Int)} {B1 B2 : List Int} {s t : Nat} (h : SqT A1 B1 s) (h' : SqT A2 B2 t) : SqT (jnT A1 B1 A2 B2) (B1 ++ B2) (s + t) := by
  refine ⟨by unfold jnT; rw [List.length_append, List.length_map, List.length_map, h.la, h'.la], by rw [List.length_append, h.lb, h'.lb], fun r hr => ?_, fun z hz => ?_⟩
  · rcases List.mem_append.1 hr with hr | hr
    · obtain ⟨x, hx, rfl⟩ := List.mem_map.1 hr
      refine ⟨fun z hz => ?_, by rw [List.length_append, List.length_replicate, (h.rows x hx).2, h'.lb]⟩
      rcases List.mem_append.1 hz with hz | hz
      · exact (h.rows x hx).1 z hz
      · have := (List.mem_replicate.1 hz).2; omega
    · obtain ⟨x, hx, rfl⟩ := List.mem_map.1 hr
      refine ⟨fun z hz => ?_, by rw [List.length_append, (h'.rows x hx).2, h.lb]⟩
      rcases List.mem_append.1 hz with hz | hz
      · exact h.ws z hz
      · exact (h'.rows x hx).1 z hz
  · rcases List.mem_append.1 hz with hz | hz
    · exact h.ws z hz
    · exact h'.ws z hz
theorem getD_appL {α : Type} {a b : List α} {i : Nat} (h : i < a.length) (d : α) : (a ++ b).getD i d = a.getD i d := by
  rw [List.getD_eq_getElem?_getD, List.getElem?_append_left h, List.getD_eq_getElem?_getD]
theorem getD_appR {α : Type} {a b : List α} {i : Nat} (h : a.length ≤ i) (d : α) : (a ++ b).getD i d = b.getD (i - a.length) d := by
  rw [List.getD_eq_getElem?_getD, List.getElem?_append_right h, List.getD_eq_getElem?_getD]
theorem getD_rep (n k : Nat) : (List.replicate n (0 : Int)).getD k 0 = 0 := by
  rw [List.getD_eq_getElem?_getD, List.getElem?_replicate]
  split <;> rfl
theorem fB_cmp {A1 : List (List Int)} {B1 B2 : List Int} {s : Nat} (h : SqT A1 B1 s) (i : Nat) : fB (B1 ++ B2) i = cB s (fB B1) (fB B2) i := by
  unfold cB fB
  by_cases hi : i < s
  · rw [if_pos hi, getD_appL (by rw [h.lb]; exact hi)]
  · rw [if_neg hi, getD_appR (by rw [h.lb]; omega), h.lb]
theorem fT_cmp {A1 A2 : List (List Int)} {B1 B2 : List Int} {s t : Nat} (h : SqT A1 B1 s) (h' : SqT A2 B2 t) {i : Nat} (hi : i < s + t) (k : Nat) : fT (jnT A1 B1 A2 B2) i k = cA s (fT A1) (fT A2) (fB B1) i k := by
  unfold cA jnT fT
  by_cases hs : i < s
  · rw [if_pos hs, getD_appL (by rw [List.length_map, h.la]; exact hs), getD_mapT (fun r => r ++ List.replicate B2.length 0) (by rw [h.la]; exact hs) []]
    have hl := (h.row hs).2
    by_cases hk : k < s
    · rw [if_pos hk, getD_appL (by rw [hl]; exact hk)]
    · rw [if_neg hk, getD_appR (by rw [hl]; omega), getD_rep]
  · rw [if_neg hs, getD_appR (by rw [List.length_map, h.la]; omega), List.length_map, h.la, getD_mapT (fun r => B1 ++ r) (by rw [h'.la]; omega) []]
    by_cases hk : k < s
    · rw [if_pos hk, getD_appL (by rw [h.lb]; exact hk)]
      rfl
    · rw [if_neg hk, getD_appR (by rw [h.lb]; omega), h.lb]
theorem chT_cmp {A1 A2 : List (List Int)} {B1 B2 : List Int} {s t : Nat} (h : SqT A1 B1 s) (h' : SqT A2 B2 t) : chT (jnT A1 B1 A2 B2) (B1 ++ B2) = cvZ (chT A1 B1) (chT A2 B2) := by
  unfold chT
  rw [List.length_append, ← chF_comp, h.lb, h'.lb]
  refine chF_mod (fun i j hi hj => ?_) fun i hi => ?_
  · rw [fT_cmp h h' hi]
  · rw [fB_cmp h]
/-! ### adjoint -/
def dnT (n : Nat) : List Nat := (List.range n).map fun i => n - 1 - i
def trA (A : List (List Int)) (n : Nat) : List (List Int) := (dnT n).map fun a => (dnT n).map fun b => (A.getD a []).getD b 0
def trB (B : List Int) (n : Nat) : List Int := (dnT n).map fun a => B.getD a 0
theorem dnT_get {n i : Nat} (h : i < n) : (dnT n).getD i 0 = n - 1 - i := by
  unfold dnT
  rw [getD_mapT (fun i => n - 1 - i) (by rw [List.length_range]; exact h) 0, List.getD_eq_getElem?_getD, List.getElem?_range h]
  rfl
theorem dnT_len (n : Nat) : (dnT n).length = n := by unfold dnT; rw [List.length_map, List.length_range]
theorem dnT_lt {n a : Nat} (h : a ∈ dnT n) : a < n := by
  obtain ⟨i, hi, rfl⟩ := List.mem_map.1 h
  have := List.mem_range.1 hi
  omega
theorem fB_tr (B : List Int) {n i : Nat} (h : i < n) : fB (trB B n) i = fB B (n - 1 - i) := by
  unfold fB trB
  rw [getD_mapT (fun a => B.getD a 0) (by rw [dnT_len]; exact h) 0, dnT_get h]
theorem fT_tr (A : List (List Int)) {n i k : Nat} (h : i < n) (hk : k < n) : fT (trA A n) i k = fT A (n - 1 - i) (n - 1 - k) := by
  unfold fT trA
  rw [getD_mapT (fun a => (dnT n).map fun b => (A.getD a []).getD b 0) (by rw [dnT_len]; exact h) 0, dnT_get h]
  rw [getD_mapT (fun b => (A.getD (n - 1 - i) []).getD b 0) (by rw [dnT_len]; exact hk) 0, dnT_get hk]
theorem SqT.tr {A : List (List Int)} {B : List Int} {s : Nat} (h : SqT A B s) : SqT (trA A s) (trB B s) s := by
  refine ⟨by unfold trA; rw [List.length_map, dnT_len], by unfold trB; rw [List.length_map, dnT_len], fun r hr => ?_, fun z hz => ?_⟩
  · obtain ⟨a, ha, rfl⟩ := List.mem_map.1 hr
    refine ⟨fun z hz => ?_, by rw [List.length_map, dnT_len]⟩
    obtain ⟨b, hb, rfl⟩ := List.mem_map.1 hz
    exact h.bd (dnT_lt ha) (dnT_lt hb)
  · obtain ⟨a, ha, rfl⟩ := List.mem_map.1 hz
    exact h.bdB (dnT_lt ha)
def adA (A : List (List Int)) (B : List Int) : List (List Int) := trA (sclT 10006 (invT A B)) B.length
def adB (B : List Int) : List Int := trB (scl 10006 (scl 10006 B)) B.length
theorem SqT.ad {A : List (List Int)} {B : List Int} {s : Nat} (h : SqT A B s) : SqT (adA A B) (adB B) s := by
  unfold adA adB
  rw [h.lb]
  exact (h.inv.scl 10006).tr
theorem fT_ad {A : List (List Int)} {B : List Int} {s : Nat} (h : SqT A B s) {i k : Nat} (hi : i < s) (hk : k < s) : fT (adA A B) i k % 10007 = aA s (fT A) (fB B) i k % 10007 := by
  unfold adA aA
  rw [h.lb, fT_tr _ hi hk]
  have e1 := fT_scl 10006 (A := invT A B) (i := s - 1 - i) (by rw [h.inv.la]; omega) (s - 1 - k)
  have e2 := fT_inv h (show s - 1 - i < s by omega) (show s - 1 - k < s by omega)
  generalize fT (sclT 10006 (invT A B)) (s - 1 - i) (s - 1 - k) = x at e1 ⊢
  generalize fT (invT A B) (s - 1 - i) (s - 1 - k) = y at e1 e2
  generalize fT A (s - 1 - i) (s - 1 - k) = u at e2 ⊢
  generalize fB B (s - 1 - k) = v at e2 ⊢
  omega
theorem fB_ad {A : List (List Int)} {B : List Int} {s : Nat} (h : SqT A B s) {i : Nat} (hi : i < s) : fB (adB B) i % 10007 = fB B (s - 1 - i) % 10007 := by
  unfold adB
  rw [h.lb, fB_tr _ hi, (inv_inv h).2]
theorem chT_ad {A : List (List Int)} {B : List Int} {s : Nat} (h : SqT A B s) : chT (adA A B) (adB B) = adjL (chT A B) := by
  unfold chT
  rw [h.ad.lb, h.lb, ← chF_adjL]
  exact chF_mod (fun i k hi hk => fT_ad h hi hk) fun i hi => fB_ad h hi
theorem chT_ad2 {A : List (List Int)} {B : List Int} {s : Nat} (h : SqT A B s) : chT (adA A B) (adB B) = scZ (iv (chT A B)) 10006 := by
  rw [chT_ad h]
  exact (scZ_iv (chr_chF _ _ _) 10006).symm
theorem ad_ad {A : List (List Int)} {B : List Int} {s : Nat} (h : SqT A B s) : adA (adA A B) (adB B) = A ∧ adB (adB B) = B := by
  refine tab_ext h.ad.ad h (fun i k hi hk => ?_) fun i hi => ?_
  · have e1 := fT_ad h.ad hi hk
    have e2 := fT_ad h (show s - 1 - i < s by omega) (show s - 1 - k < s by omega)
    have e3 := fB_ad h (show s - 1 - k < s by omega)
    rw [e1]
    unfold aA at e2 ⊢
    rw [show s - 1 - (s - 1 - i) = i by omega, show s - 1 - (s - 1 - k) = k by omega] at e2
    rw [show s - 1 - (s - 1 - k) = k by omega] at e3
    generalize fT (adA A B) (s - 1 - i) (s - 1 - k) = x at e2 ⊢
    generalize fB (adB B) (s - 1 - k) = y at e3 ⊢
    generalize fT A i k = u at e2 ⊢
    generalize fB B k = v at e2 e3
    omega
  · have e1 := fB_ad h.ad hi
    have e2 := fB_ad h (show s - 1 - i < s by omega)
    rw [show s - 1 - (s - 1 - i) = i by omega] at e2
    omega
/-- the adjoint of a composition -/
theorem ad_cmp {A1 A2 : List (List Int)} {B1 B2 : List Int} {s t : Nat} (h : SqT A1 B1 s) (h' : SqT A2 B2 t) : adA (jnT A1 B1 A2 B2) (B1 ++ B2) = jnT (adA A2 B2) (adB B2) (adA A1 B1) (adB B1) ∧ adB (B1 ++ B2) = adB B2 ++ adB B1 := by
  have hL := (h.cmp h').ad
  have hR := h'.ad.cmp h.ad
  rw [Nat.add_comm t s] at hR
  refine tab_ext hL hR (fun i k hi hk => ?_) fun i hi => ?_
  · rw [fT_ad (h.cmp h') hi hk, fT_cmp h'.ad h.ad (by omega) k]
    unfold aA
    rw [fB_cmp h, fT_cmp h h' (by omega)]
    unfold cA cB
    by_cases h1 : i < t
    · by_cases h2 : k < t
      · rw [if_neg (show ¬ s + t - 1 - k < s by omega), if_neg (show ¬ s + t - 1 - i < s by omega), if_neg (show ¬ s + t - 1 - k < s by omega), if_pos h1, if_pos h2, fT_ad h' h1 h2]
        unfold aA
        rw [show s + t - 1 - k - s = t - 1 - k by omega, show s + t - 1 - i - s = t - 1 - i by omega]
      · rw [if_pos (show s + t - 1 - k < s by omega), if_neg (show ¬ s + t - 1 - i < s by omega), if_pos (show s + t - 1 - k < s by omega), if_pos h1, if_neg h2, Int.sub_self]
    · by_cases h2 : k < t
      · rw [if_neg (show ¬ s + t - 1 - k < s by omega), if_pos (show s + t - 1 - i < s by omega), if_neg (show ¬ s + t - 1 - k < s by omega), if_neg h1, if_pos h2, fB_ad h' h2, Int.sub_zero]
        rw [show s + t - 1 - k - s = t - 1 - k by omega]
      · rw [if_pos (show s + t - 1 - k < s by omega), if_pos (show s + t - 1 - i < s by omega), if_pos (show s + t - 1 - k < s by omega), if_neg h1, if_neg h2, fT_ad h (show i - t < s by omega) (show k - t < s by omega)]
        unfold aA
        rw [show s - 1 - (k - t) = s + t - 1 - k by omega, show s - 1 - (i - t) = s + t - 1 - i by omega]
  · rw [fB_ad (h.cmp h') hi, fB_cmp h, fB_cmp h'.ad]
    unfold cB
    by_cases h1 : i < t
    · rw [if_neg (show ¬ s + t - 1 - i < s by omega), if_pos h1, fB_ad h' h1, show s + t - 1 - i - s = t - 1 - i by omega]
    · rw [if_pos (show s + t - 1 - i < s by omega), if_neg h1, fB_ad h (show i - t < s by omega), show s - 1 - (i - t) = s + t - 1 - i by omega]
/-! ### symplectic and symmetric ones -/
/-! ### repeated ones -/
end Go.Proofs.YtdjhfeaimmpmhaaGreat

set_option linter.unusedVariables false
set_option linter.unusedSimpArgs false
namespace Go.Proofs.YtdjhfeaimmpmhaaGreat
open Go.RowKit

/-- adjoints have the same order -/
theorem ad_order {A : List (List Int)} {B : List Int} {s : Nat} (h : SqT A B s) : agZ (chT (adA A B) (adB B)) EX = agZ (chT A B) EX := by
  rw [chT_ad h]
  exact ord_adj (chr_chF _ _ _)
end Go.Proofs.YtdjhfeaimmpmhaaGreat

set_option maxRecDepth 100000
set_option linter.unusedVariables false
set_option linter.unusedSimpArgs false
namespace Go.Proofs.YtdjhfeaimmpmhaaGreat
open Go.RowKit

theorem zeroCells_int (k : Nat) : Builtin.zeroCells (Value.cells (.int .i64 0)) k = (List.replicate k (Value.int .i64 0)).toArray := by
  unfold Builtin.zeroCells
  apply Array.ext
  · simp [Value.cells]
  · intro i h1 h2
    simp [Value.cells, Nat.mod_one]

theorem own_grown (W : World) {B : Nat} (hB : B ≤ W.heap.size) (e : TypeId) (xs : List Value) (rest : Array Value) (cap : Nat) (h : xs.length ≤ cap) (hc : cap ≤ maxLen) (hr : rest.size = cap - xs.length) :
    Own (W.drew.alloc (.cells (xs.toArray ++ rest) e)) B e (.slice (some ⟨W.heap.size, 0, none⟩) xs.length cap) xs := by
  refine ⟨by simp, .inr ⟨W.heap.size, cap, _, rfl, hB, heap_alloc_new W.drew _, h, hc, ?_, ?_⟩⟩
  · simp only [Array.size_append, List.size_toArray, hr]
    omega
  · simp only [Array.toList_append, Nat.mul_one]
    exact List.take_left

set_option maxHeartbeats 1000000 in
/-- the run of append with k zeros -/
theorem run_appZ (W : World) (B : Nat) (ty : TypeId) (v : Value) (vs : List Value) (k : Nat) (hown : Own W B tI v vs) (h0 : 0 < k) (hn : vs.length + k ≤ 1000000) (hB : B ≤ W.heap.size) :
    ∃ v' w', (Builtin.append_ #[24, 3] ty #[v, .int .i64 (k : Int)]).run Tryz.prog W = .ok v' w' ∧ Own w' B tI v' (vs ++ List.replicate k (.int .i64 0)) ∧ Grow W w' v v' := by
  obtain ⟨i, hi, hz, h1, h2⟩ := info_parts T_int.info
  have hrl : (vs ++ List.replicate k (Value.int .i64 0)).length = vs.length + k := by simp
  rcases hown.cases with ⟨rfl, rfl⟩ | ⟨g, cap, cur, rfl, hBg, hgl, hg, hnc, hcm, hcs, htake⟩
  · have hr := Go.Lib.run_append_nil_zeros (P := Tryz.prog) W 24 3 ty tI i (.int .i64 0) .i64 .i64 T_int.under Tryz.underlying3 hi hz k h0 (by rw [h1]; omega) (by omega) (by rw [h2]; simp at hn; omega)
    have hge := grownCap_ge W k 0 tI
    have hcm := grownCap_le_maxLen W k 0 tI (by simp only [maxLen]; simp at hn; omega)
    rw [zeroCells_int] at hr
    have ho := own_grown W hB tI (List.replicate k (Value.int .i64 0)) (Builtin.zeroCells (Value.cells (.int .i64 0)) (grownCap W k 0 tI - k)) (grownCap W k 0 tI) (by simpa using hge) hcm (by rw [size_zeroCells]; simp [Value.cells])
    rw [List.length_replicate] at ho
    refine ⟨_, _, hr, by simpa using ho, ⟨rfl, rfl, rfl, by simp, fun b hb _ => heap_alloc_old W.drew _ hb⟩, .inr ⟨_, rfl, Nat.le_refl _⟩⟩
  · by_cases hroom : vs.length + k ≤ cap
    · have hst := run_storeCells_at Tryz.prog g vs.length tI (List.replicate k (Value.int .i64 0)) 0 cur W hg (by simp; omega) (by intro u hu; obtain ⟨-, rfl⟩ := List.mem_replicate.1 hu; rfl)
      simp only [Nat.add_zero] at hst
      have hw : IntKind.i64.wrap (k : Int) = k := by rw [IntKind.wrap_i64]; omega
      have h48i : ¬ (281474976710656 < (k : Int) * (i.bytes : Int)) := by rw [h2]; omega
      have hneg : ¬ ((k : Int) < 0) := by omega
      have hk0 : ¬ k = 0 := by omega
      have hns : ¬ (k * i.size = 0) := by rw [h1]; omega
      have hz2 : Builtin.zeroCells (Value.cells (.int .i64 0)) k = (List.replicate k (Value.int .i64 0)).toArray := zeroCells_int k
      have hr : (Builtin.append_ #[24, 3] ty #[.slice (some ⟨g, 0, none⟩) vs.length cap, .int .i64 (k : Int)]).run Tryz.prog W = .ok (.slice (some ⟨g, 0, none⟩) (vs.length + k) cap) (W.setRow g (cur.toList.take vs.length ++ List.replicate k (Value.int .i64 0) ++ cur.toList.drop (vs.length + (List.replicate k (Value.int .i64 0)).length)).toArray) := by
        simp only [Value.cells] at hz2
        simp [Builtin.append_, run_underlying T_int.under, run_underlying Tryz.underlying3, sizeOf, typeInfo, zeroValue, hi, hz, asInt, asIntOf, hw, hneg, hns, hk0, h48i, hroom, Value.cells, hz2, h1, Addr.add_lit, hst]
      refine ⟨_, _, hr, ?_, ⟨rfl, rfl, rfl, by simp, fun b _ hb => setRow_other W g b _ (fun e => hb (by simp [Value.ownBlock, e]))⟩, .inl rfl⟩
      refine ⟨by simp, .inr ⟨g, cap, _, ?_, hBg, setRow_heap W g cur _ tI _ hg, by rw [hrl]; exact hroom, hcm, ?_, ?_⟩⟩
      · rw [hrl]
      · simp only [List.size_toArray, List.length_append, List.length_take, List.length_drop, Array.length_toList, List.length_replicate]
        omega
      · rw [htake, Nat.mul_one]
        exact List.take_left
    · have hfc : (Builtin.firstCells i.size vs.length (.slice (some ⟨g, 0, none⟩) vs.length cap)).run Tryz.prog W.drew = .ok vs.toArray W.drew :=
        run_firstCells_some (P := Tryz.prog) W.drew i.size vs.length ⟨g, 0, none⟩ vs.length cap vs (by rw [h1]; simp) (fun j u hu => World.ownsRow.cells hown (g := g) rfl j u hu)
      have hr := Go.Lib.run_append_grow_zeros (P := Tryz.prog) W 24 3 ty tI i (.int .i64 0) .i64 .i64 T_int.under Tryz.underlying3 hi hz (some ⟨g, 0, none⟩) vs.length cap vs hfc k h0 (by rw [h1]; omega) (by omega) (by omega) (by rw [h2]; omega) (by rw [h2]; exact growslice_fits (by omega) (by omega))
      have hge := grownCap_ge W (vs.length + k) cap tI
      have hcm2 := grownCap_le_maxLen W (vs.length + k) cap tI (by simp only [maxLen]; omega)
      rw [zeroCells_int] at hr
      have ho := own_grown W hB tI (vs ++ List.replicate k (Value.int .i64 0)) (Builtin.zeroCells (Value.cells (.int .i64 0)) (grownCap W (vs.length + k) cap tI - (vs.length + k))) (grownCap W (vs.length + k) cap tI) (by rw [hrl]; exact hge) hcm2 (by rw [size_zeroCells, hrl]; simp [Value.cells])
      rw [hrl] at ho
      refine ⟨_, _, hr, ?_, ⟨rfl, rfl, rfl, by simp, fun b hb _ => heap_alloc_old W.drew _ hb⟩, .inr ⟨_, rfl, Nat.le_refl _⟩⟩
      rw [show vs.toArray ++ (List.replicate k (Value.int .i64 0)).toArray = (vs ++ List.replicate k (Value.int .i64 0)).toArray from by simp]
      exact ho

/-- append with k zeros, met in a region that draws -/
theorem step_appZ {ops : Array Oper} {o : Oper} {a : Act} {K : Act → World → Prop} {Q : Exit → Act → World → Prop} {E : Prop} {s x : Operand}
    {B : Nat} {v : Value} {vs : List Value} {W : World} {k : Nat}
    (hown : Own W B tI v vs) (h0 : 0 < k) (hn : vs.length + k ≤ 1000000) (hB : B ≤ W.heap.size)
    (hgd : o.guard = none) (ho : o.op = .call { callee := .builtin .append, args := #[s, x], argTypes := #[24, 3] }) (hs : a.eval s = v)
    (hx : a.eval x = .int .i64 (k : Int))
    (h : ∀ v' w', Own w' B tI v' (vs ++ List.replicate k (.int .i64 0)) → Grow W w' v v' → K (a.put o.dst v') w') :
    if Region.wanted o (yielded ops a.tmps) = true then Oper.wp Tryz.prog o a W K Q else E := by
  have hw : Region.wanted o (yielded ops a.tmps) = true := by simp [Region.wanted, hgd]
  rw [if_pos hw]
  obtain ⟨v', w', hrun, r1, r2⟩ := run_appZ W B o.type v vs k hown h0 hn hB
  unfold Oper.wp execOp
  simp only [ho, resolve, invoke, builtin, Sem.run_bind, Sem.run_pure, Result.andThen_ok, List.map_toArray, List.map_cons, List.map_nil, hs, hx, hrun]
  exact h v' w' r1 r2

/-- the run of append of a list -/
theorem run_appN {P : Program} {t e : TypeId} {z : Value} {bytes : Nat} {B : Nat} {v : Value} {vs : List Value} {W : World} {y : Value} {us : List Value}
    (T : ElemT P t e z bytes) (ty : TypeId) (hown : Own W B e v vs) (hy : Cells W y us) (hlen : vs.length + us.length < 1099511627776) (hB : B ≤ W.heap.size) (hu : ∀ u ∈ us, u.oneCell' = true) :
    ∃ v' w', (Builtin.append_ #[t, t] ty #[v, y]).run P W = .ok v' w' ∧ Own w' B e v' (vs ++ us) ∧ Grow W w' v v' := by
  obtain ⟨i, hi, hz, h1, h2⟩ := info_parts T.info
  have hby := T.small
  obtain ⟨A, c, rfl, hy1, hy2, hy3⟩ := hy
  cases A with
  | none =>
    have hus : us = [] := by
      cases us with
      | nil => rfl
      | cons u us => obtain ⟨ad, h, _⟩ := hy3 0 u rfl; cases h
    subst hus
    have hrun : (Builtin.append_ #[t, t] ty #[v, .slice none 0 c]).run P W = .ok v W := by
      rcases hown.cases with ⟨rfl, rfl⟩ | ⟨g, cap, cur, rfl, _, _, _, hnc, _⟩
      · simp [Builtin.append_, run_underlying T.under, sizeOf, typeInfo, hi, Builtin.lenOf, Builtin.firstCells]
      · simp [Builtin.append_, run_underlying T.under, sizeOf, typeInfo, hi, Builtin.lenOf, Builtin.firstCells, hnc, storeCells]
    exact ⟨v, W, hrun, by simpa using hown, World.grownBy.refl W _, .inl rfl⟩
  | some ad =>
    obtain ⟨v', w', hrun, r1, r2, _, r3⟩ := run_append_own_at (P := P) W B t ty e i z 1 bytes T.under hi hz h1 h2 (by rw [T.one]; rfl) (by omega) v vs.length vs hown ad us.length c us (by simp)
      (fun j u' hj => by obtain ⟨ad', h, hc⟩ := hy3 j u' hj; injection h with h; subst h; exact hc) hu (by simp only [maxLen]; omega) (by have := Nat.mul_le_mul_left (vs.length + us.length) hby; omega) hB
    refine ⟨v', w', hrun, ?_, r2, ?_⟩
    · unfold Own; simpa using r1
    · rcases r3 with r3 | r3
      · exact .inl r3
      · exact .inr ⟨_, r3, by simp⟩

/-- append of a list, met in a region that draws -/
theorem step_appN {P : Program} {ops : Array Oper} {o : Oper} {a : Act} {K : Act → World → Prop} {Q : Exit → Act → World → Prop} {E : Prop} {s x : Operand} {t : TypeId}
    {e : TypeId} {z : Value} {bytes : Nat} {B : Nat} {v : Value} {vs : List Value} {W : World} {y : Value} {us : List Value}
    (T : ElemT P t e z bytes) (hown : Own W B e v vs) (hy : Cells W y us) (hlen : vs.length + us.length < 1099511627776) (hB : B ≤ W.heap.size) (hu : ∀ u ∈ us, u.oneCell' = true)
    (hgd : o.guard = none) (ho : o.op = .call { callee := .builtin .append, args := #[s, x], argTypes := #[t, t] }) (hs : a.eval s = v) (hx : a.eval x = y)
    (h : ∀ v' w', Own w' B e v' (vs ++ us) → Grow W w' v v' → K (a.put o.dst v') w') :
    if Region.wanted o (yielded ops a.tmps) = true then Oper.wp P o a W K Q else E := by
  have hw : Region.wanted o (yielded ops a.tmps) = true := by simp [Region.wanted, hgd]
  rw [if_pos hw]
  obtain ⟨v', w', hrun, r1, r2⟩ := run_appN T o.type hown hy hlen hB hu
  unfold Oper.wp execOp
  simp only [ho, resolve, invoke, builtin, Sem.run_bind, Sem.run_pure, Result.andThen_ok, List.map_toArray, List.map_cons, List.map_nil, hs, hx, hrun]
  exact h v' w' r1 r2

/-- make, met in a region that draws -/
theorem step_mk {P : Program} {ops : Array Oper} {o : Oper} {a : Act} {K : Act → World → Prop} {Q : Exit → Act → World → Prop} {E : Prop} {t : TypeId} {l c : Operand}
    {e : TypeId} {z : Value} {bytes : Nat} (T : ElemT P t e z bytes) (n : Nat) (hn : n < 1099511627776) {W : World}
    (hgd : o.guard = none) (ho : o.op = .makeSlice t l c) (hl : a.eval l = .int .i64 (n : Int)) (hc : a.eval c = .int .i64 (n : Int))
    (h : ∀ w', Own w' W.heap.size e (.slice (some ⟨W.heap.size, 0, none⟩) n n) (List.replicate n z) → Below W.heap.size W w' → W.heap.size < w'.heap.size → K (a.put o.dst (.slice (some ⟨W.heap.size, 0, none⟩) n n)) w') :
    if Region.wanted o (yielded ops a.tmps) = true then Oper.wp P o a W K Q else E := by
  have hw : Region.wanted o (yielded ops a.tmps) = true := by simp [Region.wanted, hgd]
  rw [if_pos hw]
  have hrun := run_make T n hn W
  unfold Oper.wp execOp
  simp only [ho, hl, hc, hrun, Sem.run_bind, Result.andThen_ok]
  exact h _ (own_made W e z n (by simp only [maxLen]; omega)) ((Below.refl _ _).alloc (Nat.le_refl _) _) (by simp)
end Go.Proofs.YtdjhfeaimmpmhaaGreat

set_option linter.unusedVariables false
set_option linter.unusedSimpArgs false
namespace Go.Proofs.YtdjhfeaimmpmhaaGreat
open Go.RowKit

theorem Blk.grow {w w' : World} {g : Nat} {t : TypeId} {cs : Array Value} {v v' : Value} (h : Blk w g t cs) (hg : Grow w w' v v') (hne : v.ownBlock ≠ some g) : Blk w' g t cs :=
  (hg.1.block g h.lt (fun e => hne e.symm)).trans h
theorem Blk.both {w : World} {g : Nat} {t : TypeId} {cs : Array Value} {u : Value} (h : Blk w g t cs) (h0 : cs[0]? = some u) : w.cell? ⟨g, 0, none⟩ = some u ∧ w.frozen? ⟨g, 0, none⟩ = false := ⟨(h.cell 0).trans h0, h.frozen 0⟩

/-- the state of a tableau that is filled: block p holds it, the rows lie behind p, the weights before p -/
structure Fill (w0 w : World) (p : Nat) (va vb : Value) (vs : List Value) (N : Nat) (rows : List (List Int)) (Bs : List Int) : Prop where
  blk : Blk w p 45 #[va, vb]
  own : Own w (p + 1) tL va vs
  rows : RowsOwn w (p + 1) w.heap.size tI vs rows
  ws : OI w N p tI vb Bs
  le : w0.heap.size ≤ N
  below : Below w0.heap.size w0 w

section
variable {w0 wr w2 w3 : World} {p N : Nat} {va vb v1 r : Value} {vs : List Value} {rows : List (List Int)} {zs Bs : List Int}
theorem Fill.lt (h : Fill w0 wr p va vb vs N rows Bs) : p < wr.heap.size := h.blk.lt
theorem Fill.np (h : Fill w0 wr p va vb vs N rows Bs) : va.ownBlock ≠ some p := fun e => by have := h.own.ge p e; omega
theorem Fill.after (h : Fill w0 wr p va vb vs N rows Bs) (hb2 : Below wr.heap.size wr w2) : Blk w2 p 45 #[va, vb] := h.blk.below hb2 h.lt
theorem Fill.next (h : Fill w0 wr p va vb vs N rows Bs) (hp : w0.heap.size ≤ p) (hb2 : Below wr.heap.size wr w2) (ho2 : OwnInts w2 wr.heap.size tI r zs)
    (hown1 : Own w3 (p + 1) tL v1 (vs ++ [r])) (hgr : Grow w2 w3 va v1) :
    Fill w0 (w3.setCell ⟨p, 0, none⟩ v1) p v1 vb (vs ++ [r]) N (rows ++ [zs]) Bs := by
  have hsz : p + 1 ≤ wr.heap.size := h.lt
  have hs2 := hb2.size
  have hs3 := hgr.1.size
  have hO2 := h.own.below hb2
  have hK3 := (h.after hb2).grow hgr h.np
  have hR2 := ((h.rows.below hb2).mono (Nat.le_refl _) hs2).snoc (u := r) (zs := zs) ⟨ho2.mono hsz, ho2.1.lt⟩ (h.rows.apart (M := 0) (fun b hb => .inl (ho2.1.ge b hb)))
  have hR3 := hR2.other hgr.1 (fun j u hu => by
    have hj := (List.getElem?_eq_some_iff.1 hu).1
    have hx : (rows ++ [zs])[j]? = some ((rows ++ [zs])[j]'(by rw [← hR2.1]; exact hj)) := List.getElem?_eq_getElem _
    exact Own.ne_of_type (hR2.2.1 j u _ hu hx).1.1 hO2 (by decide))
  have hc := (Chg.refl p (p + 1) w3).setCell (p := ⟨p, 0, none⟩) (Nat.le_refl _) (by simp) v1
  have hw := h.ws.below hb2
  have hw3 : OI w3 N p tI vb Bs := ⟨hw.1.kept hgr.1 (by
    cases hv : vb.ownBlock with
    | none => exact .inl hv
    | some b => exact .inr fun e => by have h1 := hw.2 b hv; have h2 := hO2.ge b (e.symm.trans hv); omega), hw.2⟩
  have hse : (w3.setCell ⟨p, 0, none⟩ v1).heap.size = w3.heap.size := by simp [World.setCell]
  have hBw : Below w0.heap.size w0 w2 := h.below.trans (hb2.mono (by have := h.below.size; omega))
  refine ⟨?_, ?_, ?_, ?_, h.le, ?_⟩
  · have := hK3.set_ 0 v1
    simpa using this
  · exact hown1.of_block fun b hb => hc.block b (hown1.lt b hb) (.inr (hown1.ge b hb))
  · rw [hse]
    exact (hR3.mono (Nat.le_refl _) hs3).kept hc (.inr (Nat.le_refl _))
  · exact hw3.kept hc (.inl (Nat.le_refl _))
  · exact (hgr.below hBw (by have := h.below.size; omega) (fun b hb => by have := hO2.ge b hb; omega)).setCell (p := ⟨p, 0, none⟩) hp v1
/-- what is filled is an owned tableau -/
theorem Fill.tab (h : Fill w0 wr p va vb vs N rows Bs) (hN : N ≤ p) : OT wr N wr.heap.size (.agg #[va, vb]) rows Bs := by
  have hsz := h.lt
  exact OT.of_M' (M := p) hN (Nat.le_of_lt hsz) h.ws ⟨vs, h.own.mono (Nat.le_succ _), h.own.lt, h.rows.mono (Nat.le_succ _) (Nat.le_refl _)⟩
end
end Go.Proofs.YtdjhfeaimmpmhaaGreat

set_option linter.unusedVariables false
set_option linter.unusedSimpArgs false
namespace Go.Proofs.YtdjhfeaimmpmhaaGreat
open Go.RowKit

/-- the state of a tableau that is filled, rows and weights in turn: block p holds it, all else lies behind p -/
structure Fill2 (w0 w : World) (p : Nat) (va vb : Value) (vs : List Value) (rows : List (List Int)) (Bs : List Int) : Prop where
  blk : Blk w p 45 #[va, vb]
  own : Own w (p + 1) tL va vs
  rows : RowsOwn w (p + 1) w.heap.size tI vs rows
  ws : OwnInts w (p + 1) tI vb Bs
  ap : ∀ (k : Nat) (u : Value), vs[k]? = some u → Apart u vb
  below : Below w0.heap.size w0 w

section
variable {w0 w w' w1 : World} {p : Nat} {va vb v1 r : Value} {vs : List Value} {rows : List (List Int)} {zs Bs : List Int} {z : Int}
theorem Fill2.lt (h : Fill2 w0 w p va vb vs rows Bs) : p < w.heap.size := h.blk.lt
theorem Fill2.npA (h : Fill2 w0 w p va vb vs rows Bs) : va.ownBlock ≠ some p := fun e => by have := h.own.ge p e; omega
theorem Fill2.npB (h : Fill2 w0 w p va vb vs rows Bs) : vb.ownBlock ≠ some p := fun e => by have := h.ws.1.ge p e; omega
theorem Fill2.step (h : Fill2 w0 w p va vb vs rows Bs) (hb : Below w.heap.size w w') : Fill2 w0 w' p va vb vs rows Bs :=
  ⟨h.blk.below hb h.lt, h.own.below hb, (h.rows.below hb).mono (Nat.le_refl _) hb.size, h.ws.below hb, h.ap, h.below.trans (hb.mono h.below.size)⟩
theorem Fill2.tab (h : Fill2 w0 w p va vb vs rows Bs) : OT w (p + 1) w.heap.size (.agg #[va, vb]) rows Bs :=
  ⟨va, vb, vs, rfl, h.own, h.own.lt, h.rows, ⟨h.ws, h.ws.1.lt⟩, h.ap⟩
end
end Go.Proofs.YtdjhfeaimmpmhaaGreat

