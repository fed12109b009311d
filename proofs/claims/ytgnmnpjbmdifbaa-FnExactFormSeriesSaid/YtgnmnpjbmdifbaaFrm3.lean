/- Walks: products of series of both. -/
import Derived.Test.YtgnmnpjbmdifbaaScaleP
import Derived.Test.YtgnmnpjbmdifbaaGrowT
import Derived.Test.YtgnmnpjbmdifbaaA
set_option maxRecDepth 100000
set_option linter.unusedVariables false
set_option linter.unusedSimpArgs false
namespace Go.Proofs.Ytgnmnpjbmdifbaa
open Go.RowKit

/-- the first terms of the n-th coefficient of a product -/
def cvs (a b : List Int) (n : Nat) : Nat → Int
  | 0 => 0
  | t + 1 => (cvs a b n t + a.getD t 0 * b.getD (n - t) 0) % 10007
theorem cvs_bd (a b : List Int) (n t : Nat) : 0 ≤ cvs a b n t ∧ cvs a b n t ≤ 10006 := by
  cases t with
  | zero => simp [cvs]
  | succ t => simp only [cvs]; omega
/-- how many terms are there when i rows and k of the next have been added -/
def cnt (i k n : Nat) : Nat := if n < i then n + 1 else if n < i + k then i + 1 else i
def part (a b : List Int) (i k : Nat) : List Int := (List.range a.length).map fun n => cvs a b n (cnt i k n)
theorem part_len (a b : List Int) (i k : Nat) : (part a b i k).length = a.length := by simp [part]
theorem part_zero (a b : List Int) : part a b 0 0 = List.replicate a.length 0 := by
  unfold part
  rw [List.eq_replicate_iff]
  refine ⟨by simp, fun z hz => ?_⟩
  obtain ⟨n, hn, rfl⟩ := List.mem_map.1 hz
  simp [cnt, cvs]
theorem part_get {a b : List Int} {i k : Nat} (h : i + k < a.length) : (part a b i k)[i + k]? = some (cvs a b (i + k) i) := by
  have e : cnt i k (i + k) = i := by unfold cnt; rw [if_neg (by omega), if_neg (by omega)]
  simp [part, h, e]
theorem part_set {a b : List Int} {i k : Nat} {x y : Int} (h : i + k < a.length) (hx : a[i]? = some x) (hy : b[k]? = some y) : (part a b i k).set (i + k) ((cvs a b (i + k) i + x * y) % 10007) = part a b i (k + 1) := by
  apply List.ext_getElem?
  intro n
  rw [List.getElem?_set]
  by_cases hn : i + k = n
  · subst hn
    have e : i + k - i = k := by omega
    have e2 : cnt i (k + 1) (i + k) = i + 1 := by unfold cnt; rw [if_neg (by omega), if_pos (by omega)]
    simp [part, h, e2, cvs, List.getD, hx, hy, e]
  · rw [if_neg hn]
    by_cases hn2 : n < a.length
    · have : cnt i k n = cnt i (k + 1) n := by
        unfold cnt
        by_cases h1 : n < i
        · rw [if_pos h1, if_pos h1]
        · rw [if_neg h1, if_neg h1]
          by_cases h2 : n < i + k
          · rw [if_pos h2, if_pos (by omega)]
          · rw [if_neg h2, if_neg (by omega)]
      simp [part, hn2, this]
    · simp [part, hn2]
theorem part_next {a b : List Int} {i k : Nat} (h : a.length ≤ i + k) : part a b i k = part a b (i + 1) 0 := by
  unfold part
  refine List.map_congr_left fun n hn => ?_
  have hn := List.mem_range.1 hn
  have : cnt i k n = cnt (i + 1) 0 n := by
    unfold cnt
    by_cases h1 : n < i
    · rw [if_pos h1, if_pos (by omega)]
    · rw [if_neg h1, if_pos (by omega)]
      by_cases h2 : n < i + 1
      · rw [if_pos h2]; omega
      · rw [if_neg h2, if_neg (by omega)]
  rw [this]
/-- the product of two series -/
def mulS (a b : List Int) : List Int := (List.range a.length).map fun n => cvs a b n (n + 1)
theorem part_all (a b : List Int) : part a b a.length 0 = mulS a b := by
  unfold part mulS
  refine List.map_congr_left fun n hn => ?_
  have hn := List.mem_range.1 hn
  simp [cnt, hn]
theorem mulS_len (a b : List Int) : (mulS a b).length = a.length := by simp [mulS]
theorem mulS_nums (a b : List Int) : Nums (mulS a b) := by
  intro z hz
  obtain ⟨n, _, rfl⟩ := List.mem_map.1 hz
  exact cvs_bd _ _ _ _
theorem part_in (a b : List Int) (i k : Nat) : ∀ z ∈ part a b i k, In64 z := by
  intro z hz
  obtain ⟨n, _, rfl⟩ := List.mem_map.1 hz
  have := cvs_bd a b n (cnt i k n)
  unfold In64; omega

set_option maxHeartbeats 2000000 in
theorem i_timesSeries (w : World) (v v' : Value) (a b : List Int) (ha : Ints w v a) (hb : Ints w v' b) (hA : Nums a) (hB : Nums b) (hl : a.length = b.length) (hn : a.length ≤ 1000) :
    Calls Try.prog 82 #[v, v'] w fun e w' => ∃ r, e = .returned r ∧ OwnInts w' w.heap.size tI r (mulS a b) ∧ Below w.heap.size w w' := by
  obtain ⟨A, c, rfl, l1, l2, h3⟩ := ha.open_
  obtain ⟨A', c', rfl, m1, m2, g3⟩ := hb.open_
  have H3 := Lib.hid h3
  have G3 := Lib.hid g3
  have HA := Lib.hid hA
  have HB := Lib.hid hB
  have HL := Lib.hid hl
  clear ha hb h3 g3 hA hB hl
  go_enter Try.func82, Try.ntmps82
  go_wp2_with (at_make; refine wpList_mk rfl _ _ _ rfl _ _ _ T_int a.length _ rfl rfl rfl (by omega) _ ?_; intro w2 hown hb2 hs2; have HOWN := Lib.hid hown; have HB2 := Lib.hid hb2; clear hown hb2)
  go_loopw [8, 14] (fun s8 i wr => ∃ j : Nat, j ≤ a.length ∧ i = .int .i64 j ∧ Own wr w.heap.size tI (.slice (some ⟨w.heap.size, 0, none⟩) a.length a.length) (ints (part a b j 0)) ∧ Below w.heap.size w wr) (fun _ i _ => a.length - (intOf i).toNat)
  case atStart => exact ⟨0, Nat.zero_le _, rfl, by rw [part_zero]; simpa [ints] using HOWN.out, HB2.out⟩
  case round =>
    obtain ⟨j, hj, rfl, hown, hbw⟩ := hrel
    clear HOWN HB2
    have HO := Lib.hid hown
    have HBW := Lib.hid hbw
    clear hown hbw
    by_cases hlt : j < a.length
    · obtain ⟨ad, x, rfl, hx, -, hc0⟩ := H3.out j hlt
      have hc : wr.cell? (ad.add j) = some (.int .i64 x) := by
        rw [HBW.out.cell (by rw [block_add]; have := World.block_lt_of_cell? w _ hc0; rwa [block_add] at this)]; exact hc0
      have HX := Lib.hid hx
      have hxn := HA.out x (List.mem_of_getElem? hx)
      clear hx hc0
      go_wp2_with fail
      clear hc
      obtain ⟨wo, rfl⟩ : ∃ wo : World, wo = wr := ⟨_, rfl⟩
      go_loopw [8] (fun i wi => ∃ k : Nat, j + k ≤ a.length ∧ i = .int .i64 k ∧ Own wi w.heap.size tI (.slice (some ⟨w.heap.size, 0, none⟩) a.length a.length) (ints (part a b j k)) ∧ Below w.heap.size w wi) (fun i _ => a.length - (intOf i).toNat)
      case atStart => exact ⟨0, by omega, rfl, HO.out, HBW.out⟩
      case round =>
        obtain ⟨k, hk, rfl, hown, hbw⟩ := hrel
        clear HO HBW
        have HO := Lib.hid hown
        have HBW := Lib.hid hbw
        clear hown hbw
        by_cases hlt2 : j + k < a.length
        · obtain ⟨ad', y, rfl, hy, -, hc0⟩ := G3.out k (by rw [← HL.out]; omega)
          have hcy : wr.cell? (ad'.add k) = some (.int .i64 y) := by
            rw [HBW.out.cell (by rw [block_add]; have := World.block_lt_of_cell? w _ hc0; rwa [block_add] at this)]; exact hc0
          have HY := Lib.hid hy
          have hyn := HB.out y (List.mem_of_getElem? hy)
          have hkb : (k : Int) < (b.length : Int) := by rw [← HL.out]; omega
          have hjk : (j : Int) + (k : Int) < (a.length : Int) := by omega
          have ejk : ((j : Int) + (k : Int)).toNat = j + k := by omega
          have hbd := cvs_bd a b (j + k) j
          obtain ⟨p1, p2⟩ := mul_bd 10006 10006 hxn.1 hxn.2 hyn.1 hyn.2
          have HPG := Lib.hid (ints_get (part_get (b := b) hlt2))
          have HPS := Lib.hid (part_set hlt2 HX.out HY.out)
          generalize cvs a b (j + k) j = z at hbd HPG HPS
          obtain ⟨S, hSd⟩ : ∃ S : World → Prop, S = fun w' => Own w' w.heap.size tI (.slice (some ⟨w.heap.size, 0, none⟩) a.length a.length) (ints (part a b j k)) ∧ Below w.heap.size w w' := ⟨_, rfl⟩
          have hSe : ∀ w', S w' ↔ (Own w' w.heap.size tI (.slice (some ⟨w.heap.size, 0, none⟩) a.length a.length) (ints (part a b j k)) ∧ Below w.heap.size w w') := fun w' => by rw [hSd]
          have HSI := Lib.hid (show S wr.drew from (hSe _).2 ⟨HO.out.drewN 1, HBW.out.drew⟩)
          have HSE := Lib.hid (show ∀ x : GW S, Own x.w w.heap.size tI (.slice (some ⟨w.heap.size, 0, none⟩) a.length a.length) (ints (part a b j k)) ∧ Below w.heap.size w x.w from fun x => (hSe x.w).1 x.h)
          clear hSe hSd hcy
          have q0 : ∀ x : GW S, x.w.cell? (ad'.add k) = some (.int .i64 y) := fun x => by
            rw [(HSE.out x).2.cell (by rw [block_add]; have := World.block_lt_of_cell? w _ hc0; rwa [block_add] at this)]; exact hc0
          have HST := Lib.hid (show ∀ (x : GW S) (t : Int), x.w.cell? ⟨w.heap.size, j + k, none⟩ = some (.int .i64 z) ∧ x.w.frozen? ⟨w.heap.size, j + k, none⟩ = false ∧ w.heap.size < x.w.heap.size ∧ Own (x.w.setCell ⟨w.heap.size, j + k, none⟩ (.int .i64 t)) w.heap.size tI (.slice (some ⟨w.heap.size, 0, none⟩) a.length a.length) ((ints (part a b j k)).set (j + k) (.int .i64 t)) ∧ x.w.grownBy (x.w.setCell ⟨w.heap.size, j + k, none⟩ (.int .i64 t)) (some w.heap.size) from fun x t => by
            obtain ⟨u0, hu0, hcg, hfg, hg2, hg1, hown', hgr⟩ := (HSE.out x).1.storeAt (k := j + k) (by rw [ints_len, part_len]; exact hlt2) (.int .i64 t)
            have hu0' : u0 = .int .i64 z := by rw [HPG.out] at hu0; injection hu0 with h; exact h.symm
            subst hu0'
            exact ⟨hcg, hfg, hg2, hown', hgr⟩)
          have q1 : ∀ x : GW S, x.w.cell? ⟨w.heap.size, j + k, none⟩ = some (.int .i64 z) := fun x => (HST.out x 0).1
          clear hy hc0
          go_wp2_with fail
          refine wp_region_tail 19 S (by kernel_rfl) (by kernel_rfl) HSI.out (fun hne => ?_)
          simp only [List.take_succ_cons, List.take_zero, List.drop_succ_cons, List.drop_zero]
          repeat (go_big_quiet_step ((go_at_call 57; exact grow_call ((i_num _ _ (by omega) (by omega)).mono (by rintro e w' ⟨rfl, rfl⟩; exact ⟨rfl, GW.h _⟩)))))
          refine wpQuiet_nil ?_
          rintro _ ⟨xq, rfl⟩
          have q2 := (HST.out xq 0).2.1
          have q3 := (HST.out xq 0).1
          have HS4 := Lib.hid (HST.out xq ((z + x * y) % 10007))
          have HXB := Lib.hid (HSE.out xq).2
          have HXS := Lib.hid hs2
          clear hne q0 q1 HSE HST HSI hs2
          generalize xq.w = wq at q2 q3 HS4 HXB ⊢
          go_wp2_with fail
          obtain ⟨-, -, hsz, ho4, hg4⟩ := HS4.out
          rw [show (ints (part a b j k)).set (j + k) (.int .i64 ((z + x * y) % 10007)) = ints (part a b j (k + 1)) by rw [← HPS.out, ints, ints, List.map_set]] at ho4
          go_roundw
          case rel =>
            exact ⟨k + 1, by omega, by go_num, ho4, HXB.out.setCell (p := ⟨w.heap.size, j + k, none⟩) (Nat.le_refl _) _⟩
          case measure => simp [intOf]; omega
        · have hjk : ¬ (j : Int) + (k : Int) < (a.length : Int) := by omega
          have HPN := Lib.hid (part_next (b := b) (show a.length ≤ j + k by omega))
          go_wp2_with fail
          go_roundw
          case rel =>
            refine ⟨j + 1, by omega, by go_num, ?_, HBW.out⟩
            rw [← HPN.out]
            exact HO.out
          case measure => simp [intOf]; omega
    · have : j = a.length := by omega
      subst this
      go_wp2_with fail
      go_ret
      refine ⟨_, rfl, ⟨?_, fun z hz => ?_⟩, HBW.out⟩
      · rw [← part_all]; exact HO.out
      · have := mulS_nums a b z hz
        unfold In64; omega
end Go.Proofs.Ytgnmnpjbmdifbaa
