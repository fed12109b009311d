/- Plain: brackets of Hamiltonian maps; the reduced order of characters and their order. No walk. | Plain: exact maps in steps; agreement up to a number of nodes under products, inverses, scalings, adjoints; orders. No walk. | Walks: plus of the program, l02Add of the reference. | Plain: tableaus as lists of rows: scaled, inverse, composed, adjoint ones and their characters; adjoining and inverting twice, adjoints of compositions. No walk. | Plain: repeated tableaus: the order is kept at least, once is the tableau. For lists. No walk. | append(s, make([]int64, k)...) at an owned list. No program in sight but for the types. | One round of 'z.A = append(z.A, row)', in plain words of memory. No program in sight. -/
import Derived.Test.YtnlaoainhlfemaaAj9
import Derived.Test.YtnlaoainhlfemaaAj4
import Derived.Test.YtnlaoainhlfemaaRows
import Derived.Test.YtnlaoainhlfemaaAj2
import Derived.Test.YtnlaoainhlfemaaAj3
import Derived.Lib.AppendZerosOnto
set_option maxRecDepth 100000
set_option linter.unusedVariables false
set_option linter.unusedSimpArgs false
namespace Go.Proofs.Ytnlaoainhlfemaa
open Go.RowKit

/-! ### brackets -/
/-! ### the reduced order -/
/-- the first place where a character does not agree with the exact map -/
theorem ag_spec (x : List Int) : (∀ p, p < 38 → (szT p : Int) ≤ agZ x EX → x.getD p 0 = EX.getD p 0) ∧ (agZ x EX = 6 ∧ (∀ p, p < 38 → x.getD p 0 = EX.getD p 0) ∨ ∃ p, p < 38 ∧ agZ x EX = (szT p : Int) - 1 ∧ x.getD p 0 ≠ EX.getD p 0) := by
  have hsort : (List.range 38).all (fun i => (List.range 38).all fun k => Nat.blt k i || Nat.ble (szT i) (szT k)) = true := by decide +kernel
  rw [List.all_eq_true] at hsort
  cases hf : (List.range 38).find? (fun k => x.getD k 0 != EX.getD k 0) with
  | none =>
    rw [List.find?_range_eq_none] at hf
    have hall : ∀ p, p < 38 → x.getD p 0 = EX.getD p 0 := fun p hp => by have := hf p hp; simpa using this
    exact ⟨fun p hp _ => hall p hp, .inl ⟨agZ_miss hall, hall⟩⟩
  | some k =>
    rw [List.find?_range_eq_some] at hf
    obtain ⟨h1, h2, h3⟩ := hf
    have hk : k < 38 := by simpa using h2
    have hne : x.getD k 0 ≠ EX.getD k 0 := by simpa using h1
    have hmin : ∀ i, i < k → x.getD i 0 = EX.getD i 0 := fun i hi => by have := h3 i hi; simpa using this
    have ha := agZ_hit hmin hk hne
    rw [← szT_is hk] at ha
    refine ⟨fun p hp hs => ?_, .inr ⟨k, hk, ha, hne⟩⟩
    rw [ha] at hs
    by_cases hpk : p < k
    · exact hmin p hpk
    · have h4 := hsort k (List.mem_range.2 hk)
      rw [List.all_eq_true] at h4
      have h5 := h4 p (List.mem_range.2 hp)
      rw [Bool.or_eq_true] at h5
      rcases h5 with h5 | h5
      · have := blt_lt h5; omega
      · have := Nat.le_of_ble_eq_true h5; omega
end Go.Proofs.Ytnlaoainhlfemaa

set_option maxRecDepth 100000
set_option linter.unusedVariables false
set_option linter.unusedSimpArgs false
namespace Go.Proofs.Ytnlaoainhlfemaa
open Go.RowKit

/-! ### the exact map in steps -/
def eN (p : Nat) : Nat := exN.getD p 0
theorem gz_EX (p : Nat) : gz EX p = (eN p : Int) := by
  unfold gz EX up eN
  rw [List.getD_eq_getElem?_getD, List.getElem?_map, List.getD_eq_getElem?_getD]
  cases exN[p]? <;> rfl
def prE : List Nat → Nat
  | [] => 1
  | q :: qs => eN q * prE qs % 10007
theorem prE_pz : ∀ qs : List Nat, ((prE qs : Nat) : Int) % 10007 = pz (gz EX) qs % 10007
  | [] => rfl
  | q :: qs => by
    have ih := prE_pz qs
    rw [pz_cons, gz_EX]
    unfold prE
    rw [Int.natCast_emod, Int.natCast_mul]
    show _ % 10007 % 10007 = _
    rw [Int.emod_emod_of_dvd _ (Int.dvd_refl _)]
    exact mulm rfl ih
def stP (p : Nat) : List MCt → Pol
  | [] => []
  | c :: cs => insP (List.replicate (wgt c.1.1) 0 ++ List.replicate (szT c.1.2) 1, c.2 * prE c.1.1 * eN c.1.2 % 10007) (stP p cs)
def pwP : Nat → Pol
  | 0 => [([], 1)]
  | n + 1 => mulP [([0], 1), ([1], 1)] (pwP n)
def two2 (s t : Int) (i : Nat) : Int := if i = 0 then s else t
theorem pz_rep (z : Nat → Int) (i n : Nat) : pz z (List.replicate n i) = z i ^ n := by
  induction n with
  | zero => rw [Int.pow_zero]; rfl
  | succ n ih => rw [List.replicate_succ, pz_cons, ih, Int.pow_succ, Int.mul_comm]
theorem pwP_pv (s t : Int) (n : Nat) : pv (two2 s t) (pwP n) % 10007 = (s + t) ^ n % 10007 := by
  induction n with
  | zero => rw [Int.pow_zero]; rfl
  | succ n ih =>
    unfold pwP
    rw [mulP_pv, Int.pow_succ, Int.mul_comm]
    refine mulm ih ?_
    show (1 * (s * 1) + (1 * (t * 1) + 0)) % 10007 = _
    rw [Int.mul_one, Int.mul_one, Int.one_mul, Int.one_mul, Int.add_zero]
theorem stP_pv (s t : Int) (p : Nat) : ∀ l : List MCt, pv (two2 s t) (stP p l) % 10007 = sumF (cvT (scV s (gz EX)) (scV t (gz EX))) l % 10007
  | [] => rfl
  | c :: cs => by
    have ih := stP_pv s t p cs
    unfold stP
    rw [insP_pv]
    show _ = (cvT _ _ c + sumF _ cs) % 10007
    refine addm ?_ ih
    rw [tmv_mod]
    unfold tmv cvT
    dsimp only
    rw [pz_append, pz_rep, pz_rep, pz_scV]
    unfold scV
    rw [show two2 s t 0 = s from rfl, show two2 s t 1 = t from rfl, gz_EX, Int.natCast_mul, Int.natCast_mul]
    have h := prE_pz c.1.1
    have e1 : (c.2 : Int) * (prE c.1.1 : Nat) * (eN c.1.2 : Nat) * (s ^ wgt c.1.1 * t ^ szT c.1.2) = (prE c.1.1 : Nat) * ((c.2 : Int) * (eN c.1.2 : Nat) * (s ^ wgt c.1.1 * t ^ szT c.1.2)) := by
      simp only [Int.mul_assoc, Int.mul_left_comm, Int.mul_comm]
    have e2 : (c.2 : Int) * (pz (gz EX) c.1.1 * s ^ wgt c.1.1 * ((eN c.1.2 : Nat) * t ^ szT c.1.2)) = pz (gz EX) c.1.1 * ((c.2 : Int) * (eN c.1.2 : Nat) * (s ^ wgt c.1.1 * t ^ szT c.1.2)) := by
      simp only [Int.mul_assoc, Int.mul_left_comm, Int.mul_comm]
    rw [e1, e2]
    exact mulm h rfl
theorem ts1 : (List.range 38).all (fun p => eqPl (dz (stP p (CP p))) (dz (sclP (eN p) (pwP (szT p))))) = true := by decide +kernel
/-- a step of s and one of t are a step of s + t -/
theorem EX_step (s t : Int) : cvZ (scZ EX s) (scZ EX t) = scZ EX (s + t) := by
  refine nums_ext (cvZ_nums (scZ_nums _ _)) (scZ_nums _ _) (cvZ_len _ _) (scZ_len _ _) fun p hp => ?_
  have h1 := ts1
  rw [List.all_eq_true] at h1
  have h2 := h1 p (List.mem_range.2 hp)
  rw [cvZ_cv _ _ hp, scZ_gz _ _ hp, cv_mod hp (fun k hk => scZ_gz EX s (by omega)) (fun k hk => scZ_gz EX t (by omega))]
  show sumF (cvT (scV s (gz EX)) (scV t (gz EX))) (CP p) % 10007 = _
  rw [← stP_pv s t p, pv_eq h2, sclP_pv]
  unfold scV
  rw [gz_EX]
  exact mulm rfl (pwP_pv s t (szT p))
theorem chr_EX : Chr EX := ⟨EX_len, fun z hz => EX_nums z hz, rfl⟩
theorem scZ_one {a : List Int} (ha : Chr a) : scZ a 1 = a := by
  refine nums_ext (scZ_nums _ _) ha.num (scZ_len _ _) ha.len fun p hp => ?_
  rw [scZ_gz _ _ hp]
  unfold scV
  rw [Int.one_pow, Int.mul_one]
theorem scZ_zero {a : List Int} (ha : Chr a) : scZ a 0 = unM := by
  refine nums_ext (scZ_nums _ _) unM_nums (scZ_len _ _) unM_len fun p hp => ?_
  rw [scZ_gz _ _ hp, unM_gz hp]
  unfold scV
  by_cases h0 : p = 0
  · subst h0
    show gz a 0 * 1 % 10007 = _
    rw [show gz a 0 = 1 from ha.one]; rfl
  · have h1 : 0 < szT p := szT_pos (by omega) hp
    rw [Int.zero_pow (by omega), Int.mul_zero]
    unfold un
    rw [if_neg h0]
theorem scZ_congr {a : List Int} {s t : Int} (h : s % 10007 = t % 10007) : scZ a s = scZ a t := by
  refine nums_ext (scZ_nums _ _) (scZ_nums _ _) (scZ_len _ _) (scZ_len _ _) fun p hp => ?_
  rw [scZ_gz _ _ hp, scZ_gz _ _ hp]
  unfold scV
  refine mulm rfl ?_
  generalize szT p = n
  induction n with
  | zero => rw [Int.pow_zero, Int.pow_zero]
  | succ n ih => rw [Int.pow_succ, Int.pow_succ]; exact mulm ih h
theorem iv_EX (s : Int) : iv (scZ EX s) = scZ EX (-s) := by
  refine (iv_unique (chr_scZ chr_EX _) (chr_scZ chr_EX _) ?_).symm
  rw [EX_step, show -s + s = 0 by omega, scZ_zero chr_EX]
/-- the exact map is symmetric -/
theorem adj_EX : adjL EX = EX := by
  unfold adjL
  rw [iv_EX, scZ_congr (show (-10006 : Int) % 10007 = 1 % 10007 from rfl), scZ_one chr_EX]
/-! ### agreement up to a number of nodes -/
def Agr (n : Nat) (a b : List Int) : Prop := ∀ p, p < 38 → szT p ≤ n → gz a p % 10007 = gz b p % 10007
theorem Agr.refl (n : Nat) (a : List Int) : Agr n a a := fun _ _ _ => rfl
theorem Agr.symm {n : Nat} {a b : List Int} (h : Agr n a b) : Agr n b a := fun p hp hs => (h p hp hs).symm
theorem Agr.trans {n : Nat} {a b c : List Int} (h : Agr n a b) (g : Agr n b c) : Agr n a c := fun p hp hs => (h p hp hs).trans (g p hp hs)
theorem wgt_le {ks : List Nat} {k : Nat} (h : k ∈ ks) : szT k ≤ wgt ks := by
  induction ks with
  | nil => cases h
  | cons q ks ih =>
    show szT k ≤ szT q + wgt ks
    rcases List.mem_cons.1 h with rfl | h
    · omega
    · have := ih h; omega
theorem Agr.mul {n : Nat} {a a' b b' : List Int} (h : Agr n a a') (g : Agr n b b') : Agr n (cvZ a b) (cvZ a' b') := by
  intro p hp hs
  rw [cvZ_cv _ _ hp, cvZ_cv _ _ hp]
  have h1 := eb3
  rw [List.all_eq_true] at h1
  have h2 := h1 p (List.mem_range.2 hp)
  rw [List.all_eq_true] at h2
  refine sumF_modc fun c hc => ?_
  have h3 := Nat.eq_of_beq_eq_true (h2 c hc)
  have h4 := pc_at hp hc
  refine cvT_mod (fun k hk => h k (by have := h4.1 k hk; omega) ?_) (g _ (by have := h4.2; omega) (by omega))
  have := wgt_le hk
  omega
theorem Agr.sc {n : Nat} {a b : List Int} (h : Agr n a b) (k : Int) : Agr n (scZ a k) (scZ b k) := by
  intro p hp hs
  rw [scZ_gz _ _ hp, scZ_gz _ _ hp]
  unfold scV
  exact mulm (h p hp hs) rfl
theorem Agr.inv {n : Nat} {a b : List Int} (ha : Chr a) (hb : Chr b) (h : Agr n a b) : Agr n (iv a) (iv b) := by
  have e1 : cvZ (iv a) (cvZ b (iv b)) = iv a := by rw [iv_right hb, cvZ_unR (chr_iv a)]
  have e2 : cvZ (cvZ (iv a) a) (iv b) = iv b := by rw [iv_left ha, cvZ_unL (chr_iv b).num (chr_iv b).len]
  have e3 : cvZ (cvZ (iv a) b) (iv b) = cvZ (iv a) (cvZ b (iv b)) := cvZ_assoc hb.one (chr_iv b).num
  have h1 : Agr n (cvZ (cvZ (iv a) b) (iv b)) (cvZ (cvZ (iv a) a) (iv b)) := ((Agr.refl n _).mul h.symm).mul (Agr.refl n _)
  rw [e3, e1, e2] at h1
  exact h1
theorem Agr.adj {n : Nat} {a b : List Int} (ha : Chr a) (hb : Chr b) (h : Agr n a b) : Agr n (adjL a) (adjL b) := Agr.inv (chr_scZ ha _) (chr_scZ hb _) (h.sc _)
/-! ### orders -/
theorem ord_ge {a : List Int} (ha : Chr a) {n : Nat} (hn : n ≤ 6) (h : Agr n a EX) : (n : Int) ≤ agZ a EX := by
  rcases (ag_spec a).2 with ⟨h6, -⟩ | ⟨p, hp, he, hne⟩
  · omega
  · by_cases hs : szT p ≤ n
    · refine absurd ?_ hne
      have h1 := h p hp hs
      have h2 := ha.num
      have h3 := chr_EX.num
      have b1 : 0 ≤ a.getD p 0 ∧ a.getD p 0 ≤ 10006 := by
        rw [List.getD_eq_getElem?_getD, List.getElem?_eq_getElem (by rw [ha.len]; exact hp)]
        exact h2 _ (List.getElem_mem _)
      have b2 : 0 ≤ EX.getD p 0 ∧ EX.getD p 0 ≤ 10006 := by
        rw [List.getD_eq_getElem?_getD, List.getElem?_eq_getElem (by rw [EX_len]; exact hp)]
        exact h3 _ (List.getElem_mem _)
      unfold gz at h1
      generalize a.getD p 0 = x at h1 b1 ⊢
      generalize EX.getD p 0 = y at h1 b2 ⊢
      omega
    · omega
theorem ord_agr {a : List Int} {n : Nat} (h : (n : Int) ≤ agZ a EX) : Agr n a EX := by
  intro p hp hs
  have := (ag_spec a).1 p hp (by omega)
  unfold gz
  rw [this]
/-- adjoints have the same order -/
theorem ord_adj {a : List Int} (ha : Chr a) : agZ (adjL a) EX = agZ a EX := by
  have key : ∀ {x : List Int}, Chr x → agZ x EX ≤ agZ (adjL x) EX := by
    intro x hx
    have b := agZ_bd x EX
    have b0 := agZ_nonneg (a := x) (b := EX) (by rw [hx.one]; rfl)
    obtain ⟨n, hn⟩ : ∃ n : Nat, agZ x EX = (n : Int) := ⟨(agZ x EX).toNat, by omega⟩
    rw [hn]
    refine ord_ge (chr_adjL x) (by omega) ?_
    have h1 := Agr.adj hx chr_EX (ord_agr (a := x) (n := n) (by omega))
    rw [adj_EX] at h1
    exact h1
  have h1 := key ha
  have h2 := key (chr_adjL a)
  rw [adjL_twice ha] at h2
  omega
end Go.Proofs.Ytnlaoainhlfemaa

set_option linter.unusedVariables false
set_option linter.unusedSimpArgs false
namespace Go.Proofs.Ytnlaoainhlfemaa
open Go.RowKit

/-- the first j places of a + k b -/
def addTo (k : Int) (a b : List Int) (j : Nat) : List Int := (List.range j).map fun i => (a.getD i 0 + k * b.getD i 0) % 10007
def addk (k : Int) (a b : List Int) : List Int := addTo k a b a.length
theorem addTo_len (k : Int) (a b : List Int) (j : Nat) : (addTo k a b j).length = j := by simp [addTo]
theorem addTo_succ {k : Int} {a b : List Int} {j : Nat} {x y : Int} (hx : a[j]? = some x) (hy : b[j]? = some y) : addTo k a b (j + 1) = addTo k a b j ++ [(x + k * y) % 10007] := by
  simp [addTo, List.range_succ, List.getD, hx, hy]
theorem addTo_nums (k : Int) (a b : List Int) (j : Nat) : Nums (addTo k a b j) := by
  intro z hz
  obtain ⟨i, _, rfl⟩ := List.mem_map.1 hz
  omega
theorem nums_in {zs : List Int} (h : Nums zs) : ∀ z ∈ zs, In64 z := by
  intro z hz
  have := h z hz
  unfold In64
  omega

set_option maxRecDepth 100000 in
set_option maxHeartbeats 1000000 in
theorem i_plus (w : World) (v v' : Value) (a b : List Int) (k : Int) (ha : Ints w v a) (hb : Ints w v' b) (hA : Nums a) (hB : Nums b) (hl : a.length ≤ b.length) (hn : a.length ≤ 4294967296) (h0 : -4000000000000000000 ≤ k) (h1 : k ≤ 4000000000000000000) :
    Calls Try.prog 102 #[v, v', .int .i64 k] w fun e w' => ∃ r, e = .returned r ∧ OwnInts w' w.heap.size tI r (addk (k % 10007) a b) ∧ Below w.heap.size w w' := by
  obtain ⟨A, c, rfl, l1, l2, h3⟩ := ha.open_
  obtain ⟨A', c', rfl, l1', l2', h3'⟩ := hb.open_
  have H3 := Lib.hid h3
  have G3 := Lib.hid h3'
  have HN := Lib.hid hA
  have HM := Lib.hid hB
  clear ha hb h3 h3' hA hB
  have OL := Lib.hid (own_lit w tI [] (by simp [maxLen]))
  go_enter Try.func102, Try.ntmps102
  go_wp2_with fail
  go_loopw [7, 13] (fun o i wr => ∃ j : Nat, j ≤ a.length ∧ i = .int .i64 j ∧ Own wr w.heap.size tI o (ints (addTo (k % 10007) a b j)) ∧ Below w.heap.size w wr) (fun _ i _ => a.length - (intOf i).toNat)
  case atStart => exact ⟨0, Nat.zero_le _, rfl, by simpa [addTo, ints] using OL.out, (Below.refl _ _).alloc (Nat.le_refl _) _⟩
  case round =>
    obtain ⟨j, hj, rfl, hown, hb⟩ := hrel
    clear OL
    have HO := Lib.hid hown
    have HB := Lib.hid hb
    clear hown hb
    by_cases hlt : j < a.length
    · obtain ⟨ad, x, rfl, hx, -, hcx⟩ := H3.out j hlt
      obtain ⟨ad', y, rfl, hy, -, hcy⟩ := G3.out j (by omega)
      have hc : wr.cell? (ad.add j) = some (.int .i64 x) := by
        rw [HB.out.cell (by rw [block_add]; have := World.block_lt_of_cell? w _ hcx; rwa [block_add] at this)]; exact hcx
      have hc' : wr.cell? (ad'.add j) = some (.int .i64 y) := by
        rw [HB.out.cell (by rw [block_add]; have := World.block_lt_of_cell? w _ hcy; rwa [block_add] at this)]; exact hcy
      have hxn := HN.out x (List.mem_of_getElem? hx)
      have hyn := HM.out y (List.mem_of_getElem? hy)
      have HS := Lib.hid (addTo_succ (k := k % 10007) hx hy)
      have hm0 : 0 ≤ k % 10007 ∧ k % 10007 ≤ 10006 := by omega
      obtain ⟨p1, p2⟩ := mul_bd 10006 10006 hm0.1 hm0.2 hyn.1 hyn.2
      have hjb : (j : Int) < (b.length : Int) := by omega
      have hjb' : j < b.length := by omega
      clear hx hy hcx hcy
      go_wp2_with fail
      have wA : IntKind.i64.wrap (k % 10007 * y) = k % 10007 * y := IntWalk.i64_in _ (by omega)
      have wB : IntKind.i64.wrap (x + k % 10007 * y) = x + k % 10007 * y := IntWalk.i64_in _ (by omega)
      go_region_law (first | (refine step_app1 T_int (B := w.heap.size) (W := wr.drew) (by exact HO.out) (by rw [ints_len, addTo_len]; omega) (by exact HB.out.size) (by rfl) rfl (by rfl) (by rfl) (by rfl) ?_; intro v1 w1 hown1 hgr1) | (go_simp; go_at_call 148; refine (i_num _ _ (by omega) (by omega)).mono ?_; rintro e w' ⟨rfl, rfl⟩))
      all_goals
        go_wp2_with fail
        go_roundw
        case rel =>
          refine ⟨j + 1, by omega, by go_num, ?_, hgr1.below HB.out.drew HB.out.size HO.out.ge⟩
          rw [HS.out]
          simpa [ints] using hown1
        case measure => simp [intOf]; omega
    · have : j = a.length := by omega
      subst this
      go_wp2_with fail
      go_ret
      exact ⟨_, rfl, ⟨HO.out, nums_in (addTo_nums _ _ _ _)⟩, HB.out⟩
set_option maxRecDepth 100000 in
set_option maxHeartbeats 1000000 in
theorem s_l02Add (w : World) (v v' : Value) (a b : List Int) (ha : Ints w v a) (hb : Ints w v' b) (hA : Nums a) (hB : Nums b) (hl : a.length ≤ b.length) (hn : a.length ≤ 4294967296) :
    Calls Try.prog 100 #[v, v'] w fun e w' => ∃ r, e = .returned r ∧ OwnInts w' w.heap.size tI r (addk 1 a b) ∧ Below w.heap.size w w' := by
  obtain ⟨A, c, rfl, l1, l2, h3⟩ := ha.open_
  obtain ⟨A', c', rfl, l1', l2', h3'⟩ := hb.open_
  have H3 := Lib.hid h3
  have G3 := Lib.hid h3'
  have HN := Lib.hid hA
  have HM := Lib.hid hB
  clear ha hb h3 h3' hA hB
  have OL := Lib.hid (own_lit w tI [] (by simp [maxLen]))
  go_enter Try.func100, Try.ntmps100
  go_wp2_with fail
  go_loopw [5, 6] (fun o i wr => ∃ j : Nat, j ≤ a.length ∧ i = .int .i64 j ∧ Own wr w.heap.size tI o (ints (addTo 1 a b j)) ∧ Below w.heap.size w wr) (fun _ i _ => a.length - (intOf i).toNat)
  case atStart => exact ⟨0, Nat.zero_le _, rfl, by simpa [addTo, ints] using OL.out, (Below.refl _ _).alloc (Nat.le_refl _) _⟩
  case round =>
    obtain ⟨j, hj, rfl, hown, hb⟩ := hrel
    clear OL
    have HO := Lib.hid hown
    have HB := Lib.hid hb
    clear hown hb
    by_cases hlt : j < a.length
    · obtain ⟨ad, x, rfl, hx, -, hcx⟩ := H3.out j hlt
      obtain ⟨ad', y, rfl, hy, -, hcy⟩ := G3.out j (by omega)
      have hc : wr.cell? (ad.add j) = some (.int .i64 x) := by
        rw [HB.out.cell (by rw [block_add]; have := World.block_lt_of_cell? w _ hcx; rwa [block_add] at this)]; exact hcx
      have hc' : wr.cell? (ad'.add j) = some (.int .i64 y) := by
        rw [HB.out.cell (by rw [block_add]; have := World.block_lt_of_cell? w _ hcy; rwa [block_add] at this)]; exact hcy
      have hxn := HN.out x (List.mem_of_getElem? hx)
      have hyn := HM.out y (List.mem_of_getElem? hy)
      have HS := Lib.hid (show addTo 1 a b (j + 1) = addTo 1 a b j ++ [(x + y) % 10007] by simpa using addTo_succ (k := 1) hx hy)
      have hjb : (j : Int) < (b.length : Int) := by omega
      have hjb' : j < b.length := by omega
      clear hx hy hcx hcy
      go_wp2_with fail
      go_region_law (first | (refine step_app1 T_int (B := w.heap.size) (W := wr.drew) (by exact HO.out) (by rw [ints_len, addTo_len]; omega) (by exact HB.out.size) (by rfl) rfl (by rfl) (by rfl) (by rfl) ?_; intro v1 w1 hown1 hgr1) | (go_simp; go_at_call 140; refine (s_l01Add _ _ _ (by omega) (by omega) (by omega) (by omega)).mono ?_; rintro e w' ⟨rfl, rfl⟩))
      all_goals
        go_wp2_with fail
        go_roundw
        case rel =>
          refine ⟨j + 1, by omega, by go_num, ?_, hgr1.below HB.out.drew HB.out.size HO.out.ge⟩
          rw [HS.out]
          simpa [ints] using hown1
        case measure => simp [intOf]; omega
    · have : j = a.length := by omega
      subst this
      go_wp2_with fail
      go_ret
      exact ⟨_, rfl, ⟨HO.out, nums_in (addTo_nums _ _ _ _)⟩, HB.out⟩
end Go.Proofs.Ytnlaoainhlfemaa

set_option maxRecDepth 100000
set_option linter.unusedVariables false
set_option linter.unusedSimpArgs false
namespace Go.Proofs.Ytnlaoainhlfemaa
open Go.RowKit

/-- a square tableau of numbers -/
structure SqT (A : List (List Int)) (B : List Int) (s : Nat) : Prop where
  la : A.length = s
  lb : B.length = s
  rows : ∀ r ∈ A, Nums r ∧ r.length = s
  ws : Nums B
def fT (A : List (List Int)) (i k : Nat) : Int := (A.getD i []).getD k 0
def fB (B : List Int) (i : Nat) : Int := B.getD i 0
def chT (A : List (List Int)) (B : List Int) : List Int := chF B.length (fT A) (fB B)
theorem getD_mapT {α β : Type} (f : α → β) {l : List α} {i : Nat} (h : i < l.length) (d : α) (e : β) : (l.map f).getD i e = f (l.getD i d) := by
  rw [List.getD_eq_getElem?_getD, List.getElem?_map, List.getD_eq_getElem?_getD, List.getElem?_eq_getElem h]
  rfl
theorem getD_mem {α : Type} {l : List α} {i : Nat} (h : i < l.length) (d : α) : l.getD i d ∈ l := by
  rw [List.getD_eq_getElem?_getD, List.getElem?_eq_getElem h]
  exact List.getElem_mem _
theorem list_extN {a b : List Int} (ha : Nums a) (hb : Nums b) (hl : a.length = b.length) (h : ∀ i, i < a.length → a.getD i 0 % 10007 = b.getD i 0 % 10007) : a = b := by
  refine List.ext_getElem hl fun i h1 h2 => ?_
  have e := h i h1
  have b1 := ha _ (getD_mem h1 0)
  have b2 := hb _ (getD_mem h2 0)
  have g1 : a.getD i 0 = a[i] := by rw [List.getD_eq_getElem?_getD, List.getElem?_eq_getElem h1]; rfl
  have g2 : b.getD i 0 = b[i] := by rw [List.getD_eq_getElem?_getD, List.getElem?_eq_getElem h2]; rfl
  rw [g1] at e b1
  rw [g2] at e b2
  omega
theorem SqT.row {A : List (List Int)} {B : List Int} {s : Nat} (h : SqT A B s) {i : Nat} (hi : i < s) : Nums (A.getD i []) ∧ (A.getD i []).length = s := h.rows _ (getD_mem (by rw [h.la]; exact hi) [])
theorem SqT.bd {A : List (List Int)} {B : List Int} {s : Nat} (h : SqT A B s) {i k : Nat} (hi : i < s) (hk : k < s) : 0 ≤ fT A i k ∧ fT A i k ≤ 10006 := (h.row hi).1 _ (getD_mem (by rw [(h.row hi).2]; exact hk) 0)
theorem SqT.bdB {A : List (List Int)} {B : List Int} {s : Nat} (h : SqT A B s) {i : Nat} (hi : i < s) : 0 ≤ fB B i ∧ fB B i ≤ 10006 := h.ws _ (getD_mem (by rw [h.lb]; exact hi) 0)
theorem tab_ext {A A' : List (List Int)} {B B' : List Int} {s : Nat} (h : SqT A B s) (h' : SqT A' B' s) (hA : ∀ i k, i < s → k < s → fT A i k % 10007 = fT A' i k % 10007) (hB : ∀ i, i < s → fB B i % 10007 = fB B' i % 10007) : A = A' ∧ B = B' := by
  refine ⟨List.ext_getElem (by rw [h.la, h'.la]) fun i h1 h2 => ?_, list_extN h.ws h'.ws (by rw [h.lb, h'.lb]) fun i hi => hB i (by rw [h.lb] at hi; exact hi)⟩
  have hi : i < s := by rw [h.la] at h1; exact h1
  have g1 : A.getD i [] = A[i] := by rw [List.getD_eq_getElem?_getD, List.getElem?_eq_getElem h1]; rfl
  have g2 : A'.getD i [] = A'[i] := by rw [List.getD_eq_getElem?_getD, List.getElem?_eq_getElem h2]; rfl
  rw [← g1, ← g2]
  exact list_extN (h.row hi).1 (h'.row hi).1 (by rw [(h.row hi).2, (h'.row hi).2]) fun k hk => hA i k hi (by rw [(h.row hi).2] at hk; exact hk)
/-! ### scaled -/
def sclT (k : Int) (A : List (List Int)) : List (List Int) := A.map (scl k)
theorem fB_scl (k : Int) (B : List Int) (i : Nat) : fB (scl k B) i % 10007 = fB B i * k % 10007 := by
  unfold fB scl
  rw [List.getD_eq_getElem?_getD, List.getElem?_map, List.getD_eq_getElem?_getD]
  cases B[i]? with
  | none => show (0 : Int) % 10007 = 0 * k % 10007; rw [Int.zero_mul]
  | some z => exact Int.emod_emod_of_dvd _ (Int.dvd_refl _)
theorem fT_scl (k : Int) {A : List (List Int)} {i : Nat} (hi : i < A.length) (j : Nat) : fT (sclT k A) i j % 10007 = fT A i j * k % 10007 := by
  unfold fT sclT
  rw [getD_mapT (scl k) hi []]
  exact fB_scl k _ j
theorem SqT.scl {A : List (List Int)} {B : List Int} {s : Nat} (h : SqT A B s) (k : Int) : SqT (sclT k A) (Go.Proofs.Ytnlaoainhlfemaa.scl k B) s := by
  refine ⟨by unfold sclT; rw [List.length_map, h.la], by rw [scl_len]; exact h.lb, fun r hr => ?_, scl_nums _ _⟩
  obtain ⟨x, hx, rfl⟩ := List.mem_map.1 hr
  exact ⟨scl_nums _ _, by rw [scl_len]; exact (h.rows x hx).2⟩
/-! ### inverse -/
def invT (A : List (List Int)) (B : List Int) : List (List Int) := A.map fun r => addk 10006 r B
theorem fT_inv {A : List (List Int)} {B : List Int} {s : Nat} (h : SqT A B s) {i j : Nat} (hi : i < s) (hj : j < s) : fT (invT A B) i j % 10007 = (fT A i j - fB B j) % 10007 := by
  unfold fT invT fB
  rw [getD_mapT (fun r => addk 10006 r B) (by rw [h.la]; exact hi) []]
  have hl := (h.row hi).2
  generalize A.getD i [] = r at hl ⊢
  unfold addk addTo
  rw [getD_mapT (fun i => (r.getD i 0 + 10006 * B.getD i 0) % 10007) (by rw [List.length_range, hl]; exact hj) 0]
  have : (List.range r.length).getD j 0 = j := by rw [List.getD_eq_getElem?_getD, List.getElem?_range (by omega)]; rfl
  rw [this]
  generalize r.getD j 0 = x
  generalize B.getD j 0 = y
  omega
theorem SqT.inv {A : List (List Int)} {B : List Int} {s : Nat} (h : SqT A B s) : SqT (invT A B) (Go.Proofs.Ytnlaoainhlfemaa.scl 10006 B) s := by
  refine ⟨by unfold invT; rw [List.length_map, h.la], by rw [scl_len]; exact h.lb, fun r hr => ?_, scl_nums _ _⟩
  obtain ⟨x, hx, rfl⟩ := List.mem_map.1 hr
  exact ⟨addTo_nums _ _ _ _, by unfold addk; rw [addTo_len]; exact (h.rows x hx).2⟩
theorem fB_neg (B : List Int) (i : Nat) : fB (scl 10006 B) i % 10007 = (- fB B i) % 10007 := by
  rw [fB_scl]
  generalize fB B i = x
  omega
theorem inv_inv {A : List (List Int)} {B : List Int} {s : Nat} (h : SqT A B s) : invT (invT A B) (scl 10006 B) = A ∧ scl 10006 (scl 10006 B) = B := by
  refine tab_ext h.inv.inv h (fun i k hi hk => ?_) fun i hi => ?_
  · have e1 := fT_inv h.inv hi hk
    have e2 := fT_inv h hi hk
    have e3 := fB_neg B k
    rw [e1]
    generalize fT (invT A B) i k = x at e2 ⊢
    generalize fB (scl 10006 B) k = y at e3 ⊢
    generalize fT A i k = u at e2 ⊢
    generalize fB B k = v at e2 e3
    omega
  · have e1 := fB_neg (scl 10006 B) i
    have e2 := fB_neg B i
    rw [e1]
    generalize fB (scl 10006 B) i = y at e2 ⊢
    generalize fB B i = v at e2 ⊢
    omega
/-! ### composed -/
def jnT (A1 : List (List Int)) (B1 : List Int) (A2 : List (List Int)) (B2 : List Int) : List (List Int) := A1.map (fun r => r ++ List.replicate B2.length 0) ++ A2.map (fun r => B1 ++ r)
theorem SqT.cmp {A1 A2 : List (List Int)} {B1 B2 : List Int} {s t : Nat} (h : SqT A1 B1 s) (h' : SqT A2 B2 t) : SqT (jnT A1 B1 A2 B2) (B1 ++ B2) (s + t) := by
  refine ⟨by unfold jnT; rw [List.length_append, List.length_map, List.length_map, h.la, h'.la], by rw [List.length_append, h.lb, h'.lb], fun r hr => ?_, fun z hz => ?_⟩
  · rcases List.mem_append.1 hr with hr | hr
    · obtain ⟨x, hx, rfl⟩ := List.mem_map.1 hr
      refine ⟨fun z hz => ?_, by rw [List.length_append, List.length_replicate, (h.rows x hx).2, h'.lb]⟩
      rcases List.mem_append.1 hz with hz | hz
      · exact (h.rows x hx).1 z hz
      · have := (List.mem_replicate.1 hz).2; omega
    · obtain ⟨x, hx, rfl⟩ := List.mem_map.1 hr
      refine ⟨fun z hz => ?_, by rw [List.length_append, (h'.rows x hx).2, h.lb]⟩
      rcases List.mem_append.1 hz with hz | hz
      · exact h.ws z hz
      · exact (h'.rows x hx).1 z hz
  · rcases List.mem_append.1 hz with hz | hz
    · exact h.ws z hz
    · exact h'.ws z hz
theorem getD_appL {α : Type} {a b : List α} {i : Nat} (h : i < a.length) (d : α) : (a ++ b).getD i d = a.getD i d := by
  rw [List.getD_eq_getElem?_getD, List.getElem?_append_left h, List.getD_eq_getElem?_getD]
theorem getD_appR {α : Type} {a b : List α} {i : Nat} (h : a.length ≤ i) (d : α) : (a ++ b).getD i d = b.getD (i - a.length) d := by
  rw [List.getD_eq_getElem?_getD, List.getElem?_append_right h, List.getD_eq_getElem?_getD]
theorem getD_rep (n k : Nat) : (List.replicate n (0 : Int)).getD k 0 = 0 := by
  rw [List.getD_eq_getElem?_getD, List.getElem?_replicate]
  split <;> rfl
theorem fB_cmp {A1 : List (List Int)} {B1 B2 : List Int} {s : Nat} (h : SqT A1 B1 s) (i : Nat) : fB (B1 ++ B2) i = cB s (fB B1) (fB B2) i := by
  unfold cB fB
  by_cases hi : i < s
  · rw [if_pos hi, getD_appL (by rw [h.lb]; exact hi)]
  · rw [if_neg hi, getD_appR (by rw [h.lb]; omega), h.lb]
theorem fT_cmp {A1 A2 : List (List Int)} {B1 B2 : List Int} {s t : Nat} (h : SqT A1 B1 s) (h' : SqT A2 B2 t) {i : Nat} (hi : i < s + t) (k : Nat) : fT (jnT A1 B1 A2 B2) i k = cA s (fT A1) (fT A2) (fB B1) i k := by
  unfold cA jnT fT
  by_cases hs : i < s
  · rw [if_pos hs, getD_appL (by rw [List.length_map, h.la]; exact hs), getD_mapT (fun r => r ++ List.replicate B2.length 0) (by rw [h.la]; exact hs) []]
    have hl := (h.row hs).2
    by_cases hk : k < s
    · rw [if_pos hk, getD_appL (by rw [hl]; exact hk)]
    · rw [if_neg hk, getD_appR (by rw [hl]; omega), getD_rep]
  · rw [if_neg hs, getD_appR (by rw [List.length_map, h.la]; omega), List.length_map, h.la, getD_mapT (fun r => B1 ++ r) (by rw [h'.la]; omega) []]
    by_cases hk : k < s
    · rw [if_pos hk, getD_appL (by rw [h.lb]; exact hk)]
      rfl
    · rw [if_neg hk, getD_appR (by rw [h.lb]; omega), h.lb]
/-! ### adjoint -/
def dnT (n : Nat) : List Nat := (List.range n).map fun i => n - 1 - i
def trA (A : List (List Int)) (n : Nat) : List (List Int) := (dnT n).map fun a => (dnT n).map fun b => (A.getD a []).getD b 0
def trB (B : List Int) (n : Nat) : List Int := (dnT n).map fun a => B.getD a 0
theorem dnT_get {n i : Nat} (h : i < n) : (dnT n).getD i 0 = n - 1 - i := by
  unfold dnT
  rw [getD_mapT (fun i => n - 1 - i) (by rw [List.length_range]; exact h) 0, List.getD_eq_getElem?_getD, List.getElem?_range h]
  rfl
theorem dnT_len (n : Nat) : (dnT n).length = n := by unfold dnT; rw [List.length_map, List.length_range]
theorem dnT_lt {n a : Nat} (h : a ∈ dnT n) : a < n := by
  obtain ⟨i, hi, rfl⟩ := List.mem_map.1 h
  have := List.mem_range.1 hi
  omega
theorem fB_tr (B : List Int) {n i : Nat} (h : i < n) : fB (trB B n) i = fB B (n - 1 - i) := by
  unfold fB trB
  rw [getD_mapT (fun a => B.getD a 0) (by rw [dnT_len]; exact h) 0, dnT_get h]
theorem fT_tr (A : List (List Int)) {n i k : Nat} (h : i < n) (hk : k < n) : fT (trA A n) i k = fT A (n - 1 - i) (n - 1 - k) := by
  unfold fT trA
  rw [getD_mapT (fun a => (dnT n).map fun b => (A.getD a []).getD b 0) (by rw [dnT_len]; exact h) 0, dnT_get h]
  rw [getD_mapT (fun b => (A.getD (n - 1 - i) []).getD b 0) (by rw [dnT_len]; exact hk) 0, dnT_get hk]
theorem SqT.tr {A : List (List Int)} {B : List Int} {s : Nat} (h : SqT A B s) : SqT (trA A s) (trB B s) s := by
  refine ⟨by unfold trA; rw [List.length_map, dnT_len], by unfold trB; rw [List.length_map, dnT_len], fun r hr => ?_, fun z hz => ?_⟩
  · obtain ⟨a, ha, rfl⟩ := List.mem_map.1 hr
    refine ⟨fun z hz => ?_, by rw [List.length_map, dnT_len]⟩
    obtain ⟨b, hb, rfl⟩ := List.mem_map.1 hz
    exact h.bd (dnT_lt ha) (dnT_lt hb)
  · obtain ⟨a, ha, rfl⟩ := List.mem_map.1 hz
    exact h.bdB (dnT_lt ha)
def adA (A : List (List Int)) (B : List Int) : List (List Int) := trA (sclT 10006 (invT A B)) B.length
def adB (B : List Int) : List Int := trB (scl 10006 (scl 10006 B)) B.length
theorem SqT.ad {A : List (List Int)} {B : List Int} {s : Nat} (h : SqT A B s) : SqT (adA A B) (adB B) s := by
  unfold adA adB
  rw [h.lb]
  exact (h.inv.scl 10006).tr
theorem fT_ad {A : List (List Int)} {B : List Int} {s : Nat} (h : SqT A B s) {i k : Nat} (hi : i < s) (hk : k < s) : fT (adA A B) i k % 10007 = aA s (fT A) (fB B) i k % 10007 := by
  unfold adA aA
  rw [h.lb, fT_tr _ hi hk]
  have e1 := fT_scl 10006 (A := invT A B) (i := s - 1 - i) (by rw [h.inv.la]; omega) (s - 1 - k)
  have e2 := fT_inv h (show s - 1 - i < s by omega) (show s - 1 - k < s by omega)
  generalize fT (sclT 10006 (invT A B)) (s - 1 - i) (s - 1 - k) = x at e1 ⊢
  generalize fT (invT A B) (s - 1 - i) (s - 1 - k) = y at e1 e2
  generalize fT A (s - 1 - i) (s - 1 - k) = u at e2 ⊢
  generalize fB B (s - 1 - k) = v at e2 ⊢
  omega
theorem fB_ad {A : List (List Int)} {B : List Int} {s : Nat} (h : SqT A B s) {i : Nat} (hi : i < s) : fB (adB B) i % 10007 = fB B (s - 1 - i) % 10007 := by
  unfold adB
  rw [h.lb, fB_tr _ hi, (inv_inv h).2]
theorem chT_ad {A : List (List Int)} {B : List Int} {s : Nat} (h : SqT A B s) : chT (adA A B) (adB B) = adjL (chT A B) := by
  unfold chT
  rw [h.ad.lb, h.lb, ← chF_adjL]
  exact chF_mod (fun i k hi hk => fT_ad h hi hk) fun i hi => fB_ad h hi
theorem ad_ad {A : List (List Int)} {B : List Int} {s : Nat} (h : SqT A B s) : adA (adA A B) (adB B) = A ∧ adB (adB B) = B := by
  refine tab_ext h.ad.ad h (fun i k hi hk => ?_) fun i hi => ?_
  · have e1 := fT_ad h.ad hi hk
    have e2 := fT_ad h (show s - 1 - i < s by omega) (show s - 1 - k < s by omega)
    have e3 := fB_ad h (show s - 1 - k < s by omega)
    rw [e1]
    unfold aA at e2 ⊢
    rw [show s - 1 - (s - 1 - i) = i by omega, show s - 1 - (s - 1 - k) = k by omega] at e2
    rw [show s - 1 - (s - 1 - k) = k by omega] at e3
    generalize fT (adA A B) (s - 1 - i) (s - 1 - k) = x at e2 ⊢
    generalize fB (adB B) (s - 1 - k) = y at e3 ⊢
    generalize fT A i k = u at e2 ⊢
    generalize fB B k = v at e2 e3
    omega
  · have e1 := fB_ad h.ad hi
    have e2 := fB_ad h (show s - 1 - i < s by omega)
    rw [show s - 1 - (s - 1 - i) = i by omega] at e2
    omega
/-- the adjoint of a composition -/
theorem ad_cmp {A1 A2 : List (List Int)} {B1 B2 : List Int} {s t : Nat} (h : SqT A1 B1 s) (h' : SqT A2 B2 t) : adA (jnT A1 B1 A2 B2) (B1 ++ B2) = jnT (adA A2 B2) (adB B2) (adA A1 B1) (adB B1) ∧ adB (B1 ++ B2) = adB B2 ++ adB B1 := by
  have hL := (h.cmp h').ad
  have hR := h'.ad.cmp h.ad
  rw [Nat.add_comm t s] at hR
  refine tab_ext hL hR (fun i k hi hk => ?_) fun i hi => ?_
  · rw [fT_ad (h.cmp h') hi hk, fT_cmp h'.ad h.ad (by omega) k]
    unfold aA
    rw [fB_cmp h, fT_cmp h h' (by omega)]
    unfold cA cB
    by_cases h1 : i < t
    · by_cases h2 : k < t
      · rw [if_neg (show ¬ s + t - 1 - k < s by omega), if_neg (show ¬ s + t - 1 - i < s by omega), if_neg (show ¬ s + t - 1 - k < s by omega), if_pos h1, if_pos h2, fT_ad h' h1 h2]
        unfold aA
        rw [show s + t - 1 - k - s = t - 1 - k by omega, show s + t - 1 - i - s = t - 1 - i by omega]
      · rw [if_pos (show s + t - 1 - k < s by omega), if_neg (show ¬ s + t - 1 - i < s by omega), if_pos (show s + t - 1 - k < s by omega), if_pos h1, if_neg h2, Int.sub_self]
    · by_cases h2 : k < t
      · rw [if_neg (show ¬ s + t - 1 - k < s by omega), if_pos (show s + t - 1 - i < s by omega), if_neg (show ¬ s + t - 1 - k < s by omega), if_neg h1, if_pos h2, fB_ad h' h2, Int.sub_zero]
        rw [show s + t - 1 - k - s = t - 1 - k by omega]
      · rw [if_pos (show s + t - 1 - k < s by omega), if_pos (show s + t - 1 - i < s by omega), if_pos (show s + t - 1 - k < s by omega), if_neg h1, if_neg h2, fT_ad h (show i - t < s by omega) (show k - t < s by omega)]
        unfold aA
        rw [show s - 1 - (k - t) = s + t - 1 - k by omega, show s - 1 - (i - t) = s + t - 1 - i by omega]
  · rw [fB_ad (h.cmp h') hi, fB_cmp h, fB_cmp h'.ad]
    unfold cB
    by_cases h1 : i < t
    · rw [if_neg (show ¬ s + t - 1 - i < s by omega), if_pos h1, fB_ad h' h1, show s + t - 1 - i - s = t - 1 - i by omega]
    · rw [if_pos (show s + t - 1 - i < s by omega), if_neg h1, fB_ad h (show i - t < s by omega), show s - 1 - (i - t) = s + t - 1 - i by omega]
/-! ### symplectic and symmetric ones -/
/-! ### repeated ones -/
end Go.Proofs.Ytnlaoainhlfemaa

set_option linter.unusedVariables false
set_option linter.unusedSimpArgs false
namespace Go.Proofs.Ytnlaoainhlfemaa
open Go.RowKit

/-- adjoints have the same order -/
theorem ad_order {A : List (List Int)} {B : List Int} {s : Nat} (h : SqT A B s) : agZ (chT (adA A B) (adB B)) EX = agZ (chT A B) EX := by
  rw [chT_ad h]
  exact ord_adj (chr_chF _ _ _)
end Go.Proofs.Ytnlaoainhlfemaa

set_option maxRecDepth 100000
set_option linter.unusedVariables false
set_option linter.unusedSimpArgs false
namespace Go.Proofs.Ytnlaoainhlfemaa
open Go.RowKit

/-- make, met in a region that draws -/
theorem step_mk {P : Program} {ops : Array Oper} {o : Oper} {a : Act} {K : Act → World → Prop} {Q : Exit → Act → World → Prop} {E : Prop} {t : TypeId} {l c : Operand}
    {e : TypeId} {z : Value} {bytes : Nat} (T : ElemT P t e z bytes) (n : Nat) (hn : n < 1099511627776) {W : World}
    (hgd : o.guard = none) (ho : o.op = .makeSlice t l c) (hl : a.eval l = .int .i64 (n : Int)) (hc : a.eval c = .int .i64 (n : Int))
    (h : ∀ w', Own w' W.heap.size e (.slice (some ⟨W.heap.size, 0, none⟩) n n) (List.replicate n z) → Below W.heap.size W w' → W.heap.size < w'.heap.size → K (a.put o.dst (.slice (some ⟨W.heap.size, 0, none⟩) n n)) w') :
    if Region.wanted o (yielded ops a.tmps) = true then Oper.wp P o a W K Q else E := by
  have hw : Region.wanted o (yielded ops a.tmps) = true := by simp [Region.wanted, hgd]
  rw [if_pos hw]
  have hrun := run_make T n hn W
  unfold Oper.wp execOp
  simp only [ho, hl, hc, hrun, Sem.run_bind, Result.andThen_ok]
  exact h _ (own_made W e z n (by simp only [maxLen]; omega)) ((Below.refl _ _).alloc (Nat.le_refl _) _) (by simp)
end Go.Proofs.Ytnlaoainhlfemaa

set_option linter.unusedVariables false
set_option linter.unusedSimpArgs false
namespace Go.Proofs.Ytnlaoainhlfemaa
open Go.RowKit

theorem Blk.grow {w w' : World} {g : Nat} {t : TypeId} {cs : Array Value} {v v' : Value} (h : Blk w g t cs) (hg : Grow w w' v v') (hne : v.ownBlock ≠ some g) : Blk w' g t cs :=
  (hg.1.block g h.lt (fun e => hne e.symm)).trans h
theorem Blk.both {w : World} {g : Nat} {t : TypeId} {cs : Array Value} {u : Value} (h : Blk w g t cs) (h0 : cs[0]? = some u) : w.cell? ⟨g, 0, none⟩ = some u ∧ w.frozen? ⟨g, 0, none⟩ = false := ⟨(h.cell 0).trans h0, h.frozen 0⟩

/-- the state of a tableau that is filled: block p holds it, the rows lie behind p, the weights before p -/
structure Fill (w0 w : World) (p : Nat) (va vb : Value) (vs : List Value) (N : Nat) (rows : List (List Int)) (Bs : List Int) : Prop where
  blk : Blk w p 27 #[va, vb]
  own : Own w (p + 1) tL va vs
  rows : RowsOwn w (p + 1) w.heap.size tI vs rows
  ws : OI w N p tI vb Bs
  le : w0.heap.size ≤ N
  below : Below w0.heap.size w0 w

section
variable {w0 wr w2 w3 : World} {p N : Nat} {va vb v1 r : Value} {vs : List Value} {rows : List (List Int)} {zs Bs : List Int}
theorem Fill.lt (h : Fill w0 wr p va vb vs N rows Bs) : p < wr.heap.size := h.blk.lt
theorem Fill.np (h : Fill w0 wr p va vb vs N rows Bs) : va.ownBlock ≠ some p := fun e => by have := h.own.ge p e; omega
theorem Fill.after (h : Fill w0 wr p va vb vs N rows Bs) (hb2 : Below wr.heap.size wr w2) : Blk w2 p 27 #[va, vb] := h.blk.below hb2 h.lt
theorem Fill.next (h : Fill w0 wr p va vb vs N rows Bs) (hp : w0.heap.size ≤ p) (hb2 : Below wr.heap.size wr w2) (ho2 : OwnInts w2 wr.heap.size tI r zs)
    (hown1 : Own w3 (p + 1) tL v1 (vs ++ [r])) (hgr : Grow w2 w3 va v1) :
    Fill w0 (w3.setCell ⟨p, 0, none⟩ v1) p v1 vb (vs ++ [r]) N (rows ++ [zs]) Bs := by
  have hsz : p + 1 ≤ wr.heap.size := h.lt
  have hs2 := hb2.size
  have hs3 := hgr.1.size
  have hO2 := h.own.below hb2
  have hK3 := (h.after hb2).grow hgr h.np
  have hR2 := ((h.rows.below hb2).mono (Nat.le_refl _) hs2).snoc (u := r) (zs := zs) ⟨ho2.mono hsz, ho2.1.lt⟩ (h.rows.apart (M := 0) (fun b hb => .inl (ho2.1.ge b hb)))
  have hR3 := hR2.other hgr.1 (fun j u hu => by
    have hj := (List.getElem?_eq_some_iff.1 hu).1
    have hx : (rows ++ [zs])[j]? = some ((rows ++ [zs])[j]'(by rw [← hR2.1]; exact hj)) := List.getElem?_eq_getElem _
    exact Own.ne_of_type (hR2.2.1 j u _ hu hx).1.1 hO2 (by decide))
  have hc := (Chg.refl p (p + 1) w3).setCell (p := ⟨p, 0, none⟩) (Nat.le_refl _) (by simp) v1
  have hw := h.ws.below hb2
  have hw3 : OI w3 N p tI vb Bs := ⟨hw.1.kept hgr.1 (by
    cases hv : vb.ownBlock with
    | none => exact .inl hv
    | some b => exact .inr fun e => by have h1 := hw.2 b hv; have h2 := hO2.ge b (e.symm.trans hv); omega), hw.2⟩
  have hse : (w3.setCell ⟨p, 0, none⟩ v1).heap.size = w3.heap.size := by simp [World.setCell]
  have hBw : Below w0.heap.size w0 w2 := h.below.trans (hb2.mono (by have := h.below.size; omega))
  refine ⟨?_, ?_, ?_, ?_, h.le, ?_⟩
  · have := hK3.set_ 0 v1
    simpa using this
  · exact hown1.of_block fun b hb => hc.block b (hown1.lt b hb) (.inr (hown1.ge b hb))
  · rw [hse]
    exact (hR3.mono (Nat.le_refl _) hs3).kept hc (.inr (Nat.le_refl _))
  · exact hw3.kept hc (.inl (Nat.le_refl _))
  · exact (hgr.below hBw (by have := h.below.size; omega) (fun b hb => by have := hO2.ge b hb; omega)).setCell (p := ⟨p, 0, none⟩) hp v1
/-- what is filled is an owned tableau -/
theorem Fill.tab (h : Fill w0 wr p va vb vs N rows Bs) (hN : N ≤ p) : OT wr N wr.heap.size (.agg #[va, vb]) rows Bs := by
  have hsz := h.lt
  exact OT.of_M' (M := p) hN (Nat.le_of_lt hsz) h.ws ⟨vs, h.own.mono (Nat.le_succ _), h.own.lt, h.rows.mono (Nat.le_succ _) (Nat.le_refl _)⟩
end
end Go.Proofs.Ytnlaoainhlfemaa

