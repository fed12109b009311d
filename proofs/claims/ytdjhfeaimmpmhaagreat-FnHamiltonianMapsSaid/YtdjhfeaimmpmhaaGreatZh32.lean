/- Plain: Hamiltonian maps and their free numbers: the conditions tell all values, and the values so made have the conditions; kernel checks. No walk. | Walks: ReducedOrder, FreeNumbersOf of the reference. | Walks: l12Make, HamiltonianOf of the reference. | Walk: HamiltonianOf of the reference. -/
import Derived.Test.YtdjhfeaimmpmhaaGreatZh30
import Derived.Test.YtdjhfeaimmpmhaaGreatZh22
import Derived.Test.YtdjhfeaimmpmhaaGreatZh25
import Derived.Test.YtdjhfeaimmpmhaaGreatZh31
import Derived.Test.YtdjhfeaimmpmhaaGreatZh28
set_option maxRecDepth 100000
set_option linter.unusedVariables false
set_option linter.unusedSimpArgs false
namespace Go.Proofs.YtdjhfeaimmpmhaaGreat
open Go.RowKit

def hc (p : Nat) : Nat × Bool := HTab.getD p (0, true)
/-- the value that the free numbers give at a place -/
def cval (z : Nat → Int) (p : Nat) : Int := match (hc p).1 with
  | 0 => 0
  | i + 1 => bif (hc p).2 then z i else - z i
def gP (i k : Nat) : Nat := gIdx (tr i) (tr k)
def beqC (a b : Nat × Bool) : Bool := Nat.beq a.1 b.1 && (Nat.beq a.1 0 || (a.2 != b.2))
/-- the two products of two trees with at most 6 nodes together -/
def okHp (i k : Nat) : Bool := bif Nat.ble (szT (i + 1) + szT (k + 1)) 6 then
    beqC (hc (gP i k)) (hc (gP k i)) && (Nat.beq (szT (gP i k)) (szT (i + 1) + szT (k + 1)) && Nat.beq (szT (gP k i)) (szT (i + 1) + szT (k + 1)))
  else true
theorem hp1 : (List.range 37).all (fun i => (List.range 37).all (okHp i)) = true := by decide +kernel
theorem hp_at {i k : Nat} (hi : i < 37) (hk : k < 37) (hs : szT (i + 1) + szT (k + 1) ≤ 6) : beqC (hc (gP i k)) (hc (gP k i)) = true ∧ szT (gP i k) = szT (i + 1) + szT (k + 1) ∧ szT (gP k i) = szT (i + 1) + szT (k + 1) := by
  have h1 := hp1
  rw [List.all_eq_true] at h1
  have h2 := h1 i (List.mem_range.2 hi)
  rw [List.all_eq_true] at h2
  have h3 := h2 k (List.mem_range.2 hk)
  unfold okHp at h3
  rw [Nat.ble_eq_true_of_le hs, cond_true] at h3
  simp only [Bool.and_eq_true] at h3
  exact ⟨h3.1, Nat.eq_of_beq_eq_true h3.2.1, Nat.eq_of_beq_eq_true h3.2.2⟩
theorem beqC_sum {z : Nat → Int} {p q : Nat} (h : beqC (hc p) (hc q) = true) : cval z p + cval z q = 0 := by
  unfold beqC at h
  rw [Bool.and_eq_true, Bool.or_eq_true] at h
  have e := Nat.eq_of_beq_eq_true h.1
  unfold cval
  rw [← e]
  cases hp : (hc p).1 with
  | zero => rfl
  | succ i =>
    rcases h.2 with h2 | h2
    · rw [hp] at h2; cases h2
    · simp only
      cases h3 : (hc p).2 <;> cases h4 : (hc q).2 <;> rw [h3, h4] at h2 <;> first | (simp at h2; done) | (simp only [cond_true, cond_false]; omega)
/-- the values so made have the conditions -/
theorem cval_pair (z : Nat → Int) {i k : Nat} (hi : i < 37) (hk : k < 37) (hs : szT (i + 1) + szT (k + 1) ≤ 6) : cval z (gP i k) + cval z (gP k i) = 0 := beqC_sum (hp_at hi hk hs).1
/-! ### the chain -/
def stepC (K : List Nat) (c : Nat × Nat × Nat) : Bool :=
  Nat.blt c.2.1 37 && (Nat.blt c.2.2 37 && (Nat.ble (szT (c.2.1 + 1) + szT (c.2.2 + 1)) 6 &&
    ((Nat.beq (gP c.2.1 c.2.2) c.1 && (Nat.beq (gP c.2.2 c.2.1) c.1 || K.contains (gP c.2.2 c.2.1))) ||
     (Nat.beq (gP c.2.2 c.2.1) c.1 && K.contains (gP c.2.1 c.2.2)))))
def runC : List Nat → List (Nat × Nat × Nat) → Bool
  | K, [] => (List.range 38).all fun p => Nat.beq p 0 || K.contains p
  | K, c :: cs => stepC K c && runC (c.1 :: K) cs
theorem hp2 : runC HBas HCer = true := by decide +kernel
theorem ar1 {d1 d2 c1 c2 : Int} (h : (d1 + d2) % 10007 = 0) (hc : c1 + c2 = 0) (h2 : d2 % 10007 = c2 % 10007) : d1 % 10007 = c1 % 10007 := by omega
theorem ar2 {d1 d2 c1 c2 : Int} (h : (d1 + d2) % 10007 = 0) (hc : c1 + c2 = 0) (h2 : d1 % 10007 = c1 % 10007) : d2 % 10007 = c2 % 10007 := by omega
theorem ar0 {d1 c1 : Int} (h : (d1 + d1) % 10007 = 0) (hc : c1 + c1 = 0) : d1 % 10007 = c1 % 10007 := by
  have hc0 : c1 = 0 := by omega
  subst hc0
  have h0 : 0 ≤ d1 % 10007 := Int.emod_nonneg _ (by omega)
  have h1 : d1 % 10007 < 10007 := Int.emod_lt_of_pos _ (by omega)
  have h2 : (d1 % 10007 + d1 % 10007) % 10007 = 0 := by rw [← Int.add_emod]; exact h
  generalize d1 % 10007 = x at *
  clear h hc
  show x = 0
  obtain ⟨y, hy⟩ : ∃ y, y = x + x := ⟨_, rfl⟩
  rw [← hy] at h2
  by_cases hx : y < 10007
  · have b0 : 0 ≤ y := by clear h2; omega
    rw [Int.emod_eq_of_lt b0 hx] at h2
    clear hx b0
    omega
  · have b0 : 0 ≤ y - 10007 := by clear h2; omega
    have b1 : y - 10007 < 10007 := by clear h2; omega
    have h3 : (y - 10007) % 10007 = 0 := by rw [Int.sub_emod, h2]; rfl
    rw [Int.emod_eq_of_lt b0 b1] at h3
    clear h2 b0 b1 hx
    omega
theorem chain_run {d z : Nat → Int} {S : Nat → Prop}
    (hrel : ∀ i k, i < 37 → k < 37 → szT (i + 1) + szT (k + 1) ≤ 6 → S (szT (i + 1) + szT (k + 1)) → (d (gP i k) + d (gP k i)) % 10007 = 0) :
    ∀ (cs : List (Nat × Nat × Nat)) (K : List Nat), runC K cs = true → (∀ p ∈ K, S (szT p) → d p % 10007 = cval z p % 10007) → ∀ p, 0 < p → p < 38 → S (szT p) → d p % 10007 = cval z p % 10007
  | [], K, h, hK, p, h0, hp, hS => by
    unfold runC at h
    rw [List.all_eq_true] at h
    have h1 := h p (List.mem_range.2 hp)
    rw [Bool.or_eq_true] at h1
    rcases h1 with h1 | h1
    · have := Nat.eq_of_beq_eq_true h1; omega
    · exact hK p (by simpa using h1) hS
  | (q, i, k) :: cs, K, h, hK, p, h0, hp, hS => by
    unfold runC at h
    rw [Bool.and_eq_true] at h
    obtain ⟨h1, h2⟩ := h
    refine chain_run hrel cs (q :: K) h2 (fun r hr hSr => ?_) p h0 hp hS
    rcases List.mem_cons.1 hr with rfl | hr
    · unfold stepC at h1
      dsimp only at h1
      simp only [Bool.and_eq_true, Bool.or_eq_true] at h1
      obtain ⟨hi, hk, hs, h3⟩ := h1
      have hi := blt_lt hi
      have hk := blt_lt hk
      have hs := Nat.le_of_ble_eq_true hs
      obtain ⟨-, s1, s2⟩ := hp_at hi hk hs
      have hsum := cval_pair z hi hk hs
      have hrl := hrel i k hi hk hs
      obtain ⟨g1, hg1⟩ : ∃ g, g = gP i k := ⟨_, rfl⟩
      obtain ⟨g2, hg2⟩ : ∃ g, g = gP k i := ⟨_, rfl⟩
      rw [← hg1, ← hg2] at hsum hrl h3
      rw [← hg1] at s1
      rw [← hg2] at s2
      rw [← s1] at s2 hrl
      clear hg1 hg2 s1 hp
      rcases h3 with ⟨e1, h4⟩ | ⟨e2, h4⟩
      · have e1 := Nat.eq_of_beq_eq_true e1
        subst e1
        have hrl := hrl hSr
        rcases h4 with h4 | h4
        · have e2 := Nat.eq_of_beq_eq_true h4
          subst e2
          exact ar0 hrl hsum
        · have h5 := hK _ (by simpa using h4) (by rw [s2]; exact hSr)
          exact ar1 hrl hsum h5
      · have e2 := Nat.eq_of_beq_eq_true e2
        subst e2
        have hrl := hrl (by rw [← s2]; exact hSr)
        have h5 := hK _ (by simpa using h4) (by rw [← s2]; exact hSr)
        exact ar2 hrl hsum h5
    · exact hK r hr hSr
theorem chain {d z : Nat → Int} {S : Nat → Prop}
    (hrel : ∀ i k, i < 37 → k < 37 → szT (i + 1) + szT (k + 1) ≤ 6 → S (szT (i + 1) + szT (k + 1)) → (d (gP i k) + d (gP k i)) % 10007 = 0)
    (hbase : ∀ p ∈ HBas, S (szT p) → d p % 10007 = cval z p % 10007) : ∀ p, 0 < p → p < 38 → S (szT p) → d p % 10007 = cval z p % 10007 :=
  chain_run hrel HCer HBas hp2 hbase
/-! ### the program's words -/
def okHv (p : Nat) : Bool := Nat.beq p 0 || (Nat.beq (hIdx (tr (p - 1))) (hc p).1 && (Nat.beq (hc p).1 0 || ((evN (tr (p - 1))) == (hc p).2)) && Nat.ble (hc p).1 10)
theorem hp3 : (List.range 38).all okHv = true := by decide +kernel
theorem hv_at {p : Nat} (h0 : 0 < p) (hp : p < 38) : hIdx (tr (p - 1)) = (hc p).1 ∧ ((hc p).1 = 0 ∨ evN (tr (p - 1)) = (hc p).2) ∧ (hc p).1 ≤ 10 := by
  have h1 := hp3
  rw [List.all_eq_true] at h1
  have h2 := h1 p (List.mem_range.2 hp)
  unfold okHv at h2
  simp only [Bool.or_eq_true, Bool.and_eq_true] at h2
  rcases h2 with h2 | ⟨⟨h2, h3⟩, h4⟩
  · have := Nat.eq_of_beq_eq_true h2; omega
  · exact ⟨Nat.eq_of_beq_eq_true h2, h3.imp Nat.eq_of_beq_eq_true (fun h => by simpa using h), Nat.le_of_ble_eq_true h4⟩
theorem hamZ_gz (zs : List Int) {p : Nat} (hp : p < 38) (h0 : 0 < p) : gz (hamZ zs) p % 10007 = cval (gz zs) p % 10007 := by
  obtain ⟨q, rfl⟩ : ∃ q, p = q + 1 := ⟨p - 1, by omega⟩
  obtain ⟨h1, h2, -⟩ := hv_at h0 hp
  have e : gz (hamZ zs) (q + 1) = hamV zs (tr q) := by
    show (0 :: T6.map (hamV zs)).getD (q + 1) 0 = _
    have ht : T6[q]? = some (tr q) := tr_get (by omega)
    rw [List.getD_cons_succ, List.getD_eq_getElem?_getD, List.getElem?_map, ht]
    rfl
  rw [e]
  show hamV zs (tr (q + 1 - 1)) % 10007 = _
  unfold hamV cval
  rw [h1]
  cases hi : (hc (q + 1)).1 with
  | zero => rfl
  | succ i =>
    rcases h2 with h2 | h2
    · rw [hi] at h2; cases h2
    · simp only
      rw [h2]
      cases (hc (q + 1)).2 with
      | true => rfl
      | false =>
        show (if false = true then zs.getD i 0 else (-(zs.getD i 0)) % 10007) % 10007 = (- zs.getD i 0) % 10007
        rw [if_neg (by simp)]
        omega
theorem hamZ_len (zs : List Int) : (hamZ zs).length = 38 := by
  unfold hamZ
  rw [List.length_cons, List.length_map, T6_len]
theorem hamZ_nums {zs : List Int} (h : Nums zs) : Nums (hamZ zs) := by
  intro z hz
  rcases List.mem_cons.1 hz with rfl | hz
  · omega
  · obtain ⟨t, -, rfl⟩ := List.mem_map.1 hz
    unfold hamV
    split
    · omega
    · split
      · exact getD_nums h _
      · omega
theorem hamZ_head (zs : List Int) : (hamZ zs).getD 0 0 = 0 := rfl
theorem szT_tr {i : Nat} (hi : i < 37) : szT (i + 1) = (tr i).length := by rw [szT_is (by omega)]; exact sz_tr hi
theorem ar3 {a b c d : Int} (h1 : a % 10007 = c % 10007) (h2 : b % 10007 = d % 10007) (h : c + d = 0) : (a + b) % 10007 = 0 % 10007 := by omega
/-- a Hamiltonian map made of numbers has the conditions up to 6 -/
theorem hamZ_to (zs : List Int) : ToR (hamZ zs) 0 6 := by
  refine ⟨Nat.le_refl _, fun i k hi hk hs => ?_, .inl rfl⟩
  have hs' : szT (i + 1) + szT (k + 1) ≤ 6 := by rw [szT_tr hi, szT_tr hk]; exact hs
  obtain ⟨-, s1, s2⟩ := hp_at hi hk hs'
  have hsum := cval_pair (gz zs) hi hk hs'
  have hpos1 : 1 ≤ szT (i + 1) := by rw [szT_is (by omega)]; exact szN_pos hi
  have g1 : 0 < gP i k ∧ gP i k < 38 := by
    obtain ⟨r, -, -, -, -, h1, h2, -⟩ := gOk_at (tr_mem hi) (tr_mem hk) hs
    exact ⟨h1, by show gIdx _ _ < 38; omega⟩
  have g2 : 0 < gP k i ∧ gP k i < 38 := by
    obtain ⟨r, -, -, -, -, h1, h2, -⟩ := gOk_at (tr_mem hk) (tr_mem hi) (by omega)
    exact ⟨h1, by show gIdx _ _ < 38; omega⟩
  have e1 := hamZ_gz zs g1.2 g1.1
  have e2 := hamZ_gz zs g2.2 g2.1
  show (gz (hamZ zs) (gP i k) + gz (hamZ zs) (gP k i)) % 10007 = _
  rw [Int.zero_mul]
  exact ar3 e1 e2 hsum
/-! ### reading back -/
def okHb (j : Nat) : Bool := Nat.beq (idxN T6n (CD.getD j [])) (HBas.getD j 0) && (Nat.beq (hc (HBas.getD j 0)).1 (j + 1) && (hc (HBas.getD j 0)).2)
theorem hp4 : (List.range 10).all okHb = true := by decide +kernel
theorem hb_at {j : Nat} (h : j < 10) : idxN T6n (CD.getD j []) = HBas.getD j 0 ∧ (hc (HBas.getD j 0)).1 = j + 1 ∧ (hc (HBas.getD j 0)).2 = true := by
  have h1 := hp4
  rw [List.all_eq_true] at h1
  have h2 := h1 j (List.mem_range.2 h)
  unfold okHb at h2
  simp only [Bool.and_eq_true] at h2
  exact ⟨Nat.eq_of_beq_eq_true h2.1, Nat.eq_of_beq_eq_true h2.2.1, h2.2.2⟩
theorem cval_base (z : Nat → Int) {j : Nat} (h : j < 10) : cval z (HBas.getD j 0) = z j := by
  obtain ⟨-, h1, h2⟩ := hb_at h
  unfold cval
  rw [h1, h2]
  rfl
theorem CD_len : CD.length = 10 := rfl
theorem HBas_bd {j : Nat} (h : j < 10) : 0 < HBas.getD j 0 ∧ HBas.getD j 0 < 38 := by
  have h1 : (List.range 10).all (fun j => Nat.blt 0 (HBas.getD j 0) && Nat.blt (HBas.getD j 0) 38) = true := by decide +kernel
  rw [List.all_eq_true] at h1
  have h2 := h1 j (List.mem_range.2 h)
  rw [Bool.and_eq_true] at h2
  exact ⟨blt_lt h2.1, blt_lt h2.2⟩
/-- the free numbers of a map -/
def frL (b : List Int) : List Int := CD.map (cdV b)
theorem frL_len (b : List Int) : (frL b).length = 10 := by unfold frL; rw [List.length_map, CD_len]
theorem frL_at (b : List Int) {j : Nat} (h : j < 10) : (frL b).getD j 0 = b.getD (HBas.getD j 0) 0 := by
  have hl : j < CD.length := h
  obtain ⟨h1, -, -⟩ := hb_at h
  unfold frL
  rw [List.getD_eq_getElem?_getD, List.getElem?_map, List.getElem?_eq_getElem hl]
  show cdV b CD[j] = _
  unfold cdV
  rw [← h1]
  congr 2
  rw [List.getD_eq_getElem?_getD, List.getElem?_eq_getElem hl]
  rfl
theorem frL_nums {b : List Int} (h : Nums b) : Nums (frL b) := by
  intro z hz
  obtain ⟨t, -, rfl⟩ := List.mem_map.1 hz
  exact getD_nums h _
theorem list10_ext {x y : List Int} (hx : Nums x) (hy : Nums y) (lx : x.length = 10) (ly : y.length = 10) (h : ∀ j, j < 10 → x.getD j 0 % 10007 = y.getD j 0 % 10007) : x = y := by
  refine List.ext_getElem (by rw [lx, ly]) fun i h1 h2 => ?_
  have h3 := h i (by omega)
  have b1 := getD_nums hx i
  have b2 := getD_nums hy i
  have h4 : x.getD i 0 = y.getD i 0 := by omega
  rw [List.getD_eq_getElem?_getD, List.getD_eq_getElem?_getD, List.getElem?_eq_getElem h1, List.getElem?_eq_getElem h2] at h4
  simpa using h4
theorem frL_hamZ {zs : List Int} (h : Nums zs) (l : zs.length = 10) : frL (hamZ zs) = zs := by
  refine list10_ext (frL_nums (hamZ_nums h)) h (frL_len _) l fun j hj => ?_
  rw [frL_at _ hj]
  have hb := HBas_bd hj
  have e := hamZ_gz zs hb.2 hb.1
  rw [cval_base _ hj] at e
  exact e
/-- a map with the conditions is the one made of its free numbers -/
theorem hamZ_frL {x : List Int} (h : Nums x) (l : x.length = 38) (h0 : x.getD 0 0 = 0) (ht : ToR x 0 6) : hamZ (frL x) = x := by
  refine nums_ext (hamZ_nums (frL_nums h)) h (hamZ_len _) l fun p hp => ?_
  by_cases hp0 : 0 < p
  · rw [hamZ_gz _ hp hp0]
    refine (chain (d := gz x) (z := gz (frL x)) (S := fun _ => True) (fun i k hi hk hs _ => ?_) (fun q hq _ => ?_) p hp0 hp trivial).symm
    · have e := ht.all i k hi hk (by rw [← szT_tr hi, ← szT_tr hk]; exact hs)
      unfold prB at e
      rw [Int.zero_mul] at e
      exact e
    · obtain ⟨j, hj, hjq⟩ := List.mem_iff_getElem.1 hq
      have hj10 : j < 10 := hj
      have eq : q = HBas.getD j 0 := by rw [List.getD_eq_getElem?_getD, List.getElem?_eq_getElem hj, ← hjq]; rfl
      rw [eq, cval_base _ hj10]
      show x.getD _ 0 % 10007 = (frL x).getD j 0 % 10007
      rw [frL_at x hj10]
  · have : p = 0 := by omega
    subst this
    show (hamZ (frL x)).getD 0 0 % 10007 = x.getD 0 0 % 10007
    rw [hamZ_head, h0]
end Go.Proofs.YtdjhfeaimmpmhaaGreat

set_option maxRecDepth 100000
set_option linter.unusedVariables false
set_option linter.unusedSimpArgs false
namespace Go.Proofs.YtdjhfeaimmpmhaaGreat
open Go.RowKit

set_option maxHeartbeats 8000000 in
theorem s_FreeNumbersOf (w : World) (v : Value) (a : List Int) (ha : Ints w v a) :
    Calls Tryz.prog 17 #[v] w fun e w' => ∃ x, e = .returned (.tuple #[x, .int .i64 (fnoC a)]) ∧ OwnInts w' w.heap.size tI x (fnoR a) ∧ Below w.heap.size w w' := by
  have HA := Lib.hid ha
  have HCH := Lib.hid (s_l08Code1 w v a ha)
  obtain ⟨A, c, rfl, -, -, -⟩ := ha.open_
  clear ha
  by_cases hc : infC a = 0
  · rw [hc] at HCH
    obtain ⟨hm, ha0⟩ := inf_of hc
    have hmt := mapB_true hm
    have hl := hmt.1
    have HN := Lib.hid (show Nums a from hmt.2)
    have HTO := Lib.hid (fun W (h : Ints W (.slice A a.length c) a) => s_l12To W _ a h hmt.1 hmt.2)
    rw [ha0] at HTO
    rw [hl] at HA HCH HTO ⊢
    have HL := Lib.hid hl
    have HC := Lib.hid hc
    clear hc hm ha0 hmt hl
    go_enter Tryz.func17, Tryz.ntmps17
    by_cases h6 : toV a 0 < 6
    · have hd6 : decide (((toV a 0 : Nat) : Int) < 6) = true := decide_eq_true (by omega)
      have hi6 : ((toV a 0 : Nat) : Int) < 6 := by omega
      have HR := Lib.hid (show fnoR a = [] from by rw [fnoR, if_pos HC.out, if_pos h6])
      have HCC := Lib.hid (show fnoC a = 5 from by rw [fnoC, if_pos HC.out, if_pos h6])
      clear h6
      go_wp2_with (first
        | (go_at_call 68; refine HCH.out.mono ?_; rintro e w0 ⟨rfl, rfl⟩)
        | (go_at_call 69; go_loud (refine (HTO.out _ HA.out).mono ?_; rintro e w2 ⟨r, rfl, hr, hb2⟩; rw [← toV_is hr]; have HB2 := Lib.hid hb2; clear hr hb2)))
      go_ret2
      rw [HR.out, HCC.out]
      exact ⟨_, rfl, OwnInts.nil _ _ _, HB2.out⟩
    · have hd6 : decide (((toV a 0 : Nat) : Int) < 6) = false := decide_eq_false (by omega)
      have hi6 : ¬ ((toV a 0 : Nat) : Int) < 6 := by omega
      have HR := Lib.hid (show fnoR a = CD.map (cdV a) from by rw [fnoR, if_pos HC.out, if_neg h6])
      have HCC := Lib.hid (show fnoC a = 0 from by rw [fnoC, if_pos HC.out, if_neg h6])
      clear h6
      go_wp2_with (first
        | (go_at_call 68; refine HCH.out.mono ?_; rintro e w0 ⟨rfl, rfl⟩)
        | (go_at_call 69; go_loud (refine (HTO.out _ HA.out).mono ?_; rintro e w2 ⟨r, rfl, hr, hb2⟩; rw [← toV_is hr]; have HB2 := Lib.hid hb2; clear hr hb2))
        | (go_at_call 70; go_loud (refine (s_l03All _ 6 (by omega)).mono ?_; rintro e w3 ⟨x3, rfl, hx3, hb3⟩; rw [show allG treesN 6 = T6n from rfl] at hx3; obtain ⟨A3, c3, he3, -, -, -⟩ := hx3.rows.open_; rw [List.length_map, T6n_len] at he3; subst he3; have HX3 := Lib.hid hx3.rows; have HB3 := Lib.hid (HB2.out.trans (hb3.mono HB2.out.size)); clear hx3 hb3))
        | (go_at_call 71; go_loud (refine (s_l12All _).mono ?_; rintro e w4 ⟨x4, rfl, hl4, hb4⟩; rw [CD_eq] at hl4; obtain ⟨A4, c4, he4, -, -, -⟩ := hl4.rows.open_; rw [List.length_map, show CD.length = 10 from rfl] at he4; subst he4; have HL4 := Lib.hid hl4.rows; have HB34 := Lib.hid hb4; have HB4 := Lib.hid (HB3.out.trans (hb4.mono HB3.out.size)); clear hl4 hb4)))
      have hbn : Below w4.heap.size w4 (w4.alloc (.cells #[] tI)) := below1 _ _
      have HX4 := Lib.hid ((HX3.out.below HB34.out).below hbn)
      have HL5 := Lib.hid (HL4.out.below hbn)
      have HB5 := Lib.hid (HB4.out.trans (hbn.mono HB4.out.size))
      have HA5 := Lib.hid ((HA.out.below HB4.out).below hbn)
      have OL := Lib.hid (show Own (w4.alloc (.cells #[] tI)) w4.heap.size tI (.slice (some ⟨w4.heap.size, 0, none⟩) 0 0) (ints ((CD.take 0).map (cdV a))) from own_lit w4 tI [] (by simp [maxLen]))
      have HBZ := Lib.hid hbn
      have HSZ := Lib.hid HB4.out.size
      clear hbn
      go_loopw [7, 8] (fun o x wr => ∃ k : Nat, k ≤ 10 ∧ x = .int .i64 k ∧ Own wr w4.heap.size tI o (ints ((CD.take k).map (cdV a))) ∧ Below w4.heap.size w4 wr ∧ Below w.heap.size w wr) (fun _ x _ => 10 - (intOf x).toNat)
      case atStart => exact ⟨0, Nat.zero_le _, rfl, OL.out, HBZ.out, HB5.out⟩
      case round =>
        obtain ⟨k, hk, rfl, ho, hb4, hb⟩ := hrel
        clear OL
        have hel : ((CD.take k).map (cdV a)).length = k := by rw [List.length_map, List.length_take]; show min k 10 = k; omega
        have hol := ho.cells.open_
        rw [ints_len, hel] at hol
        obtain ⟨Ao, co, rfl, -, -⟩ := hol
        have HEL := Lib.hid hel
        have HO := Lib.hid ho
        have HB4' := Lib.hid hb4
        have HB := Lib.hid hb
        clear ho hb4 hb hel
        by_cases hlt : k < 10
        · obtain ⟨ad, At, ct, t, rfl, ht, hti, hcr⟩ := (HL4.out.below HB4'.out).cond hlt
          have htm := List.mem_of_getElem? ht
          obtain ⟨p, hp1, hpf, hp7, hpt, ht6, ht1, htl⟩ := CD_at htm
          obtain ⟨a1, he, hcx, hx0, hx1⟩ := map_cell ((HA.out.below HB4.out).below HB4'.out) HN.out (k := p + 1) (by omega)
          subst he
          have hcv : cdV a t = a.getD (p + 1) 0 := by unfold cdV; rw [hp1]
          obtain ⟨p1, hep⟩ : ∃ p1 : Nat, p1 = p + 1 := ⟨_, rfl⟩
          rw [← hcv, ← hep] at hcx
          have HTS := Lib.hid (show ints ((CD.take (k + 1)).map (cdV a)) = ints ((CD.take k).map (cdV a)) ++ [.int .i64 (cdV a t)] from by rw [List.take_add_one, ht, List.map_append, ints, ints, List.map_append]; rfl)
          generalize cdV a t = z at hcx HTS
          have hpl : (p1 : Int) < 38 := by omega
          have hpl2 : p1 < 38 := by omega
          have HF := Lib.hid (fun W x y (h1 : Rows W x (T6n.map up)) (h2 : Ints W y (up t)) => show Calls Tryz.prog 72 #[x, y] W fun e w' => e = .returned (.int .i64 (p : Nat)) ∧ ∃ n, w' = W.drewN n from by
            have h := s_l03Find W x y T6n t h1 h2 (by rw [T6n_len]; omega)
            rw [hpf, show (((p + 1 : Nat) : Int) - 1) = (p : Int) from by omega] at h
            exact h)
          have hwp : wrap64 ((p : Int) + 1) = (p1 : Int) := by rw [hep]; unfold wrap64; omega
          have HXR := Lib.hid ((HX3.out.below HB34.out).below HB4'.out)
          have HTI := Lib.hid hti
          have HCX := Lib.hid hcx
          have hkk : (k : Int) < 10 := by omega
          clear ht htm hp1 hpf hp7 hpt htl hep hti hcx hcv
          go_wp2_with (first
            | (go_at_call 72; go_loud (refine (HF.out _ _ _ HXR.out HTI.out).mono ?_; rintro e w6 ⟨rfl, n6, rfl⟩; have hcx := keepCell (below_drewN (Below.refl wr.heap.size wr) n6) HCX.out; have HOX := Lib.hid (HO.out.below (below_drewN (Below.refl wr.heap.size wr) n6))))
            | (at_builtin; go_loud (refine wpList_app1 T_int HOX.out (by rw [ints_len, HEL.out]; omega) (by exact HB4'.out.size) (by rfl) rfl (by rfl) (by rfl) (by rfl) ?_; intro v1 w7 hown1 hgr1; have HNN := Lib.hid hown1; have HGR := Lib.hid hgr1; clear hown1 hgr1)))
          go_roundw
          case rel =>
            have hbd := below_drewN (Below.refl wr.heap.size wr) n6
            have hge := HO.out.ge
            refine ⟨k + 1, by omega, by go_num, ?_, HGR.out.below (HB4'.out.trans (hbd.mono HB4'.out.size)) HB4'.out.size hge, HGR.out.below (HB.out.trans (hbd.mono HB.out.size)) HB.out.size (fun b hb => Nat.le_trans HSZ.out (hge b hb))⟩
            rw [HTS.out]; exact HNN.out
          case measure => simp [intOf]; omega
        · have hkl : k = 10 := by omega
          have HTK := Lib.hid (show CD.take k = CD from List.take_of_length_le (by rw [hkl]; exact Nat.le_refl _))
          clear hkl
          go_wp2_with fail
          go_ret2
          rw [HR.out, HCC.out]
          have h := HO.out
          rw [HTK.out] at h
          refine ⟨_, rfl, ⟨h.mono HSZ.out, fun z hz => ?_⟩, HB.out⟩
          obtain ⟨t, ht, rfl⟩ := List.mem_map.1 hz
          exact in64_num (cdV_nums HN.out HL.out ht)
  · have HR := Lib.hid (show fnoR a = [] from by rw [fnoR, if_neg hc])
    have HCC := Lib.hid (show fnoC a = infC a from by rw [fnoC, if_neg hc])
    have hd : (infC a != 0) = true := by simp [hc]
    rw [HR.out, HCC.out]
    generalize infC a = cc at *
    clear hc HR HCC
    go_enter Tryz.func17, Tryz.ntmps17
    go_wp2_with (go_at_call 68; refine HCH.out.mono ?_; rintro e w0 ⟨rfl, rfl⟩)
    go_ret2
    exact ⟨_, rfl, OwnInts.nil _ _ _, Below.refl _ _⟩
end Go.Proofs.YtdjhfeaimmpmhaaGreat

set_option maxRecDepth 100000
set_option linter.unusedVariables false
set_option linter.unusedSimpArgs false
namespace Go.Proofs.YtdjhfeaimmpmhaaGreat
open Go.RowKit

set_option maxHeartbeats 16000000 in
theorem s_l12Make (w : World) (v : Value) (zs : List Int) (ha : Ints w v zs) (h10 : zs.length = 10) (hn : nums zs = true) :
    Calls Tryz.prog 62 #[v] w fun e w' => ∃ x, e = .returned x ∧ OwnInts w' w.heap.size tI x (hamZ zs) ∧ Below w.heap.size w w' := by
  have HNU := Lib.hid (nums_iff.1 hn)
  obtain ⟨A, c, rfl, l1, l2, h3⟩ := ha.open_
  have H3 := Lib.hid h3
  have H10 := Lib.hid h10
  clear ha h3 hn h10
  go_enter Tryz.func62, Tryz.ntmps62
  go_wp2_with (first
    | (go_at_call 70; go_loud (refine (s_l03All _ 6 (by omega)).mono ?_; rintro e w2 ⟨x2, rfl, hl2, hb2⟩; rw [show allG treesN 6 = T6 from rfl] at hl2; obtain ⟨A3, c3, he3, -, -, -⟩ := hl2.rows.open_; rw [List.length_map, T6_len] at he3; subst he3; have HB2 := Lib.hid hb2; have HQ2 := Lib.hid hl2; clear hl2 hb2))
    | (go_at_call 71; go_loud (refine (s_l12All _).mono ?_; rintro e w3 ⟨x3, rfl, hl3, hb3⟩; rw [C6_eq] at hl3; obtain ⟨A2, c2, he2, -, -, -⟩ := hl3.rows.open_; rw [List.length_map, show C6.length = 10 from rfl] at he2; subst he2; have HB3 := Lib.hid (HB2.out.trans (hb3.mono HB2.out.size)); have HL3 := Lib.hid (hl3.mono HB2.out.size); have HQ3 := Lib.hid (HQ2.out.below hb3); have OL := Lib.hid (show OwnInts (w3.alloc (.cells #[.int .i64 0] tI)) w3.heap.size tI (.slice (some ⟨w3.heap.size, 0, none⟩) 1 1) (0 :: (T6.take 0).map (hamV zs)) from ⟨own_lit w3 tI [.int .i64 0] (by simp [maxLen]), fun z hz => by simp at hz; subst hz; unfold In64; omega⟩); clear hl3 hb3)))
  go_loopw [5, 6] (fun o x wr => ∃ i : Nat, i ≤ 37 ∧ x = .int .i64 i ∧ OwnInts wr w3.heap.size tI o (0 :: (T6.take i).map (hamV zs)) ∧ Below w3.heap.size w3 wr) (fun _ x _ => 37 - (intOf x).toNat)
  case atStart => exact ⟨0, Nat.zero_le _, rfl, OL.out, below1 _ _⟩
  case round =>
    obtain ⟨i, hi, rfl, ho, hb⟩ := hrel
    obtain ⟨Ao, co, rfl, -, -⟩ := ho.1.cells.open_
    have HOL := Lib.hid (show (ints (0 :: (T6.take i).map (hamV zs))).length ≤ 1000 from by rw [ints_len, List.length_cons, List.length_map, List.length_take]; omega)
    generalize hnn : (ints (0 :: (T6.take i).map (hamV zs))).length = nn at ho ⊢
    have HNN := Lib.hid hnn
    have HO := Lib.hid ho
    have HX := Lib.hid hb
    have HB := Lib.hid (HB3.out.trans (hb.mono HB3.out.size))
    have HLC := Lib.hid (HL3.out.below hb)
    have HLT := Lib.hid (HQ3.out.below hb)
    clear ho hb hnn OL
    by_cases hlt : i < 37
    · have hq : T6[i]? = some (T6[i]'(by rw [T6_len]; exact hlt)) := List.getElem?_eq_getElem _
      have hmem : T6[i]'(by rw [T6_len]; exact hlt) ∈ T6 := List.getElem_mem _
      obtain ⟨htl, ht8, htm, fr, rs, kk, ys, hf, hrs, hrl, hro, hfn, hix, hsg⟩ := okH_at hmem
      have HV := Lib.hid (show hamV zs (T6[i]'(by rw [T6_len]; exact hlt)) = _ from hamV_is zs hf)
      have HTS := Lib.hid (show 0 :: (T6.take (i + 1)).map (hamV zs) = (0 :: (T6.take i).map (hamV zs)) ++ [hamV zs (T6[i]'(by rw [T6_len]; exact hlt))] from by rw [List.take_add_one, hq, List.map_append]; rfl)
      obtain ⟨A3', c3', he3, -, -, hrow⟩ := HLT.out.rows.open_
      rw [List.length_map, T6_len] at he3 hrow
      simp only [Value.slice.injEq, true_and] at he3
      obtain ⟨rfl, rfl⟩ := he3
      obtain ⟨ad, u, us, rfl, hz, hu, hc⟩ := hrow i hlt
      rw [List.getElem?_map, hq] at hz
      injection hz with hz
      subst hz
      generalize T6[i]'(by rw [T6_len]; exact hlt) = t at *
      obtain ⟨A5, c5, rfl, -, -, -⟩ := hu.open_
      rw [up_len] at hc hu
      have HRO := Lib.hid (fun W (h : Ints W (.slice A5 t.length c5) (up t)) => s_l04Roots W (.slice A5 t.length c5) t _ h (by omega) hro)
      have HSG := Lib.hid (fun hne W (h : Ints W (.slice A5 t.length c5) (up t)) => s_l12Sign W (.slice A5 t.length c5) t fr kk ys _ h ht8 hro (hsg hne))
      have HU := Lib.hid hu
      have hii : (i : Int) < 37 := by omega
      have hixx := fun W y (hy : Rows W (.slice A2 10 c2) (C6.map up)) (h : Ints W y (up fr)) => s_l03Find W (.slice A2 10 c2) y C6 fr hy h (by decide)
      rw [hfn] at hixx
      clear hq hmem htl ht8 htm hf hrs hrl hro hfn hsg hu hrow
      generalize idxN C6 fr = ix at hix HV hixx HSG
      have HIX := Lib.hid hixx
      have HCT := Lib.hid hc
      clear hixx
      cases ix with
      | zero =>
        have HV0 := Lib.hid (show hamV zs t = 0 from HV.out)
        have hneg : (((0 : Nat) : Int) - 1) = -1 := by omega
        go_wp2_with (first
          | (go_at_call 122; go_loud ((with_reducible refine (HRO.out _ HU.out).mono ?_); rintro e w4 ⟨x4, rfl, ho4, hb4⟩; obtain ⟨g, cap, A6, c6, he6, hc6, -, hr6⟩ := ho4.at_ (k := 0) rfl; subst he6; have hc6' : w4.cell? ⟨g, 0, none⟩ = some (.slice A6 fr.length c6) := hc6; have HO4 := Lib.hid hr6; have HB4 := Lib.hid hb4; have hp4 : 0 < ((fr, kk) :: ys).length := (by simp); have HOX := Lib.hid (HO.out.below hb4); have HLC4 := Lib.hid (HLC.out.below hb4); clear ho4 hb4 hc6 hr6))
          | (go_at_call 72; go_loud (refine (HIX.out _ _ HLC4.out.rows HO4.out.ints).mono ?_; rintro e w5 ⟨rfl, n5, rfl⟩))
          | (at_builtin; go_loud (refine wpList_app1 T_int (HOX.out.1.below (below_drewN (Below.refl w4.heap.size w4) n5)) (by have := HOL.out; omega) (Nat.le_trans HX.out.size HB4.out.size) (by rfl) rfl (by rfl) (by rfl) (by rfl) ?_; intro v1 w6 hown1 hgr1; have HN := Lib.hid hown1; have HGR := Lib.hid hgr1; clear hown1 hgr1)))
        go_roundw
        case rel =>
          refine ⟨i + 1, by omega, by go_num, ?_, HGR.out.below (HX.out.trans (below_drewN (HB4.out.mono HX.out.size) n5)) (Nat.le_trans HX.out.size HB4.out.size) HO.out.1.ge⟩
          rw [HTS.out, HV0.out]
          exact own_snoc HO.out.2 (by unfold In64; omega) HN.out
        case measure => simp [intOf]; omega
      | succ i' =>
        have hi' : i' < zs.length := by rw [H10.out]; omega
        obtain ⟨az, z, rfl, hz, hz64, hcz0⟩ := H3.out i' hi'
        have hzn := HNU.out z (List.mem_of_getElem? hz)
        have hgz : zs.getD i' 0 = z := by simp [List.getD, hz]
        have HCZ := Lib.hid hcz0
        have hpos : ((i' + 1 : Nat) : Int) - 1 = (i' : Int) := by omega
        simp only [hpos] at HIX
        have hv := HV.out
        simp only [hgz] at hv
        have hii' : (i' : Int) < (zs.length : Int) := by omega
        have hsg := HSG.out (by omega)
        have HTD := Lib.hid (show 0 ≤ z ∧ z ≤ 10006 from hzn)
        clear hz hcz0 hgz HV hpos HSG
        go_wp2_with (first
          | (go_at_call 122; go_loud ((with_reducible refine (HRO.out _ HU.out).mono ?_); rintro e w4 ⟨x4, rfl, ho4, hb4⟩; obtain ⟨g, cap, A6, c6, he6, hc6, -, hr6⟩ := ho4.at_ (k := 0) rfl; subst he6; have hc6' : w4.cell? ⟨g, 0, none⟩ = some (.slice A6 fr.length c6) := hc6; have HO4 := Lib.hid hr6; have HB4 := Lib.hid hb4; have hp4 : 0 < ((fr, kk) :: ys).length := (by simp); have HLC4 := Lib.hid (HLC.out.below hb4); clear ho4 hb4 hc6 hr6))
          | (go_at_call 72; go_loud (refine (HIX.out _ _ HLC4.out.rows HO4.out.ints).mono ?_; rintro e w5 ⟨rfl, n5, rfl⟩)))
        clear hc6' hp4 hc
        obtain ⟨wq, hwq⟩ : ∃ wq : World, wq = w4.drewN n5 := ⟨_, rfl⟩
        have HBW := Lib.hid (show Below wr.heap.size wr wq from by rw [hwq]; exact below_drewN HB4.out n5)
        rw [← hwq]
        clear hwq
        have hc := keepCell HBW.out HCT.out
        have hcz := keepCell (HB.out.trans (HBW.out.mono HB.out.size)) HCZ.out
        have HBC := Lib.hid (show Below wr.heap.size wr wq.drew from HBW.out.drew)
        cases hev : evN t with
        | true =>
          rw [hev] at hsg hv
          have HSG := Lib.hid hsg
          have HV0 := Lib.hid (show hamV zs t = z % 10007 from by rw [hv]; have := HTD.out; simp; omega)
          have hbz : -9223372036854775808 ≤ z ∧ z ≤ 9223372036854775807 := by omega
          have hw1 := w64_in' _ hbz
          have hw2 := IntWalk.i64_in _ hbz
          clear hv hev hbz hsg
          first | go_region_law (first
            | (go_simp; go_at_call 124; go_loud ((with_reducible refine (HSG.out _ (HU.out.below HBC.out)).mono ?_); rintro e w7 ⟨rfl, hb7⟩; have HBC := Lib.hid (HBC.out.trans (hb7.mono HBC.out.size)); have hcz7 := keepCell (HB.out.trans (HBC.out.mono HB.out.size)) HCZ.out; have HOX := Lib.hid (HO.out.below HBC.out); simp only [sgZ]; clear hb7))
            | (go_simp; go_at_call 123; go_loud (refine (s_l01Mod _ _ (by have := HTD.out; clear hw1 hw2; omega) (by have := HTD.out; clear hw1 hw2; omega)).mono ?_; rintro e w8 ⟨rfl, rfl⟩))
            | (have hgo := HOX; clear hgo; go_loud (refine stp_app1 T_int (B := w3.heap.size) (W := w7.alloc (.cells #[.int .i64 (z % 10007)] tI)) (u := .int .i64 (z % 10007)) (ad := ⟨w7.heap.size, 0, none⟩) (HOX.out.1.below (below1 w7 _)) (by have := HOL.out; clear hw1 hw2; omega) (by have h1 := HX.out.size; have h2 := HBC.out.size; clear hw1 hw2; simp; omega) (by rfl) rfl (by rfl) (by rfl) (by rfl) ((Blk.new w7 _ _).cell 0) ?_; intro v1 w6 hown1 hgr1))) | fail
          all_goals
            have hb8 : Below w3.heap.size w3 (w7.alloc (.cells #[.int .i64 (z % 10007)] tI)) := HX.out.trans ((HBC.out.trans ((below1 w7 _).mono HBC.out.size)).mono HX.out.size)
            have HN := Lib.hid hown1
            have HGR := Lib.hid (hgr1.below hb8 hb8.size HO.out.1.ge)
            clear hown1 hgr1 hw1 hw2
            go_wp2_with fail
            go_roundw
            case rel =>
              refine ⟨i + 1, by omega, by go_num, ?_, HGR.out⟩
              rw [HTS.out, HV0.out]
              exact own_snoc HO.out.2 (by unfold In64; omega) HN.out
            case measure => simp [intOf]; omega
        | false =>
          rw [hev] at hsg hv
          have HSG := Lib.hid hsg
          have HV0 := Lib.hid (show hamV zs t = (-z) % 10007 from by rw [hv]; rfl)
          have hbz : -9223372036854775808 ≤ -z ∧ -z ≤ 9223372036854775807 := by omega
          have hw1 := w64_in' _ hbz
          have hw2 := IntWalk.i64_in _ hbz
          clear hv hev hbz hsg
          first | go_region_law (first
            | (go_simp; go_at_call 124; go_loud ((with_reducible refine (HSG.out _ (HU.out.below HBC.out)).mono ?_); rintro e w7 ⟨rfl, hb7⟩; have HBC := Lib.hid (HBC.out.trans (hb7.mono HBC.out.size)); have hcz7 := keepCell (HB.out.trans (HBC.out.mono HB.out.size)) HCZ.out; have HOX := Lib.hid (HO.out.below HBC.out); simp only [sgZ]; clear hb7))
            | (go_simp; go_at_call 123; go_loud (refine (s_l01Mod _ _ (by have := HTD.out; clear hw1 hw2; omega) (by have := HTD.out; clear hw1 hw2; omega)).mono ?_; rintro e w8 ⟨rfl, rfl⟩))
            | (have hgo := HOX; clear hgo; go_loud (refine stp_app1 T_int (B := w3.heap.size) (W := w7.alloc (.cells #[.int .i64 ((-z) % 10007)] tI)) (u := .int .i64 ((-z) % 10007)) (ad := ⟨w7.heap.size, 0, none⟩) (HOX.out.1.below (below1 w7 _)) (by have := HOL.out; clear hw1 hw2; omega) (by have h1 := HX.out.size; have h2 := HBC.out.size; clear hw1 hw2; simp; omega) (by rfl) rfl (by rfl) (by rfl) (by rfl) ((Blk.new w7 _ _).cell 0) ?_; intro v1 w6 hown1 hgr1))) | fail
          all_goals
            have hb8 : Below w3.heap.size w3 (w7.alloc (.cells #[.int .i64 ((-z) % 10007)] tI)) := HX.out.trans ((HBC.out.trans ((below1 w7 _).mono HBC.out.size)).mono HX.out.size)
            have HN := Lib.hid hown1
            have HGR := Lib.hid (hgr1.below hb8 hb8.size HO.out.1.ge)
            clear hown1 hgr1 hw1 hw2
            go_wp2_with fail
            go_roundw
            case rel =>
              refine ⟨i + 1, by omega, by go_num, ?_, HGR.out⟩
              rw [HTS.out, HV0.out]
              exact own_snoc HO.out.2 (by unfold In64; omega) HN.out
            case measure => simp [intOf]; omega
    · have hi37 : i = 37 := by omega
      have e : 0 :: (T6.take i).map (hamV zs) = hamZ zs := by rw [hi37, show T6.take 37 = T6 from List.take_of_length_le (by rw [T6_len]; exact Nat.le_refl _)]; rfl
      go_wp2_with fail
      go_ret
      exact ⟨_, rfl, Eq.mp (congrArg (fun l => OwnInts wr w.heap.size tI _ l) e) (HO.out.mono HB3.out.size), HB.out⟩
end Go.Proofs.YtdjhfeaimmpmhaaGreat

set_option maxRecDepth 100000
set_option linter.unusedVariables false
set_option linter.unusedSimpArgs false
namespace Go.Proofs.YtdjhfeaimmpmhaaGreat
open Go.RowKit

set_option maxHeartbeats 4000000 in
theorem s_HamiltonianOf (w : World) (v : Value) (zs : List Int) (ha : Ints w v zs) :
    Calls Tryz.prog 12 #[v] w fun e w' => ∃ x, e = .returned (.tuple #[x, .int .i64 (hamC zs)]) ∧ OwnInts w' w.heap.size tI x (hamR zs) ∧ Below w.heap.size w w' := by
  have HA := Lib.hid ha
  obtain ⟨A, c, rfl, l1, l2, -⟩ := ha.open_
  clear ha
  by_cases h10 : zs.length = 10
  · have hd : ((zs.length : Int) != 10) = false := by simp [h10]
    have H10 := Lib.hid h10
    cases hn : nums zs with
    | false =>
      have HC := Lib.hid (show hamC zs = 2 from by simp [hamC, hamOk, hn])
      have HR := Lib.hid (show hamR zs = [] from by simp [hamR, hamOk, hn])
      rw [HC.out, HR.out]
      have HNA := Lib.hid (fun W (h : Ints W (.slice A zs.length c) zs) => show Calls Tryz.prog 61 #[.slice A zs.length c] W fun e w' => e = .returned (.bool false) ∧ W = w' from by have h2 := s_l01Numbers W _ zs h; rw [hn] at h2; exact h2)
      clear hn h10
      go_enter Tryz.func12, Tryz.ntmps12
      go_wp2_with (go_at_call 61; refine (HNA.out _ HA.out).mono ?_; rintro e w1 ⟨rfl, rfl⟩)
      go_ret2
      exact ⟨_, rfl, OwnInts.nil _ _ _, Below.refl _ _⟩
    | true =>
      have HC := Lib.hid (show hamC zs = 0 from by simp [hamC, hamOk, hn, h10])
      have HR := Lib.hid (show hamR zs = hamZ zs from by simp [hamR, hamOk, hn, h10])
      rw [HC.out, HR.out]
      have HMK := Lib.hid (fun W (h : Ints W (.slice A zs.length c) zs) => s_l12Make W _ zs h h10 hn)
      have HNA := Lib.hid (fun W (h : Ints W (.slice A zs.length c) zs) => show Calls Tryz.prog 61 #[.slice A zs.length c] W fun e w' => e = .returned (.bool true) ∧ W = w' from by have h2 := s_l01Numbers W _ zs h; rw [hn] at h2; exact h2)
      clear hn h10
      go_enter Tryz.func12, Tryz.ntmps12
      go_wp2_with (first
        | (go_at_call 61; refine (HNA.out _ HA.out).mono ?_; rintro e w1 ⟨rfl, rfl⟩)
        | (go_at_call 62; refine (HMK.out _ HA.out).mono ?_; rintro e w2 ⟨x2, rfl, ho2, hb2⟩; have HO2 := Lib.hid ho2; have HB2 := Lib.hid hb2; clear ho2 hb2))
      go_ret2
      exact ⟨_, rfl, HO2.out, HB2.out⟩
  · have hd : ((zs.length : Int) != 10) = true := by simp; omega
    have HC := Lib.hid (show hamC zs = 2 from by simp [hamC, hamOk, h10])
    have HR := Lib.hid (show hamR zs = [] from by simp [hamR, hamOk, h10])
    rw [HC.out, HR.out]
    clear h10
    go_enter Tryz.func12, Tryz.ntmps12
    go_wp2_with fail
    go_ret2
    exact ⟨_, rfl, OwnInts.nil _ _ _, Below.refl _ _⟩
end Go.Proofs.YtdjhfeaimmpmhaaGreat

