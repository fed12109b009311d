/- Walks of the library's Repeat at a list of one number. | Walks: dot, applied, stageWeights, weight of tableaus. | Walk: stageWeights of tableaus. -/
import Derived.Test.YtdjhfeaimmpmhaaGreatZc24
import Derived.Deep.RegionLaw
import Derived.Deep.RegionHeld3
import Derived.Laws.CopyOwn
import Derived.Test.YtdjhfeaimmpmhaaGreatZc5
import Derived.Test.YtdjhfeaimmpmhaaGreatZc10
set_option maxRecDepth 100000
set_option linter.unusedVariables false
set_option linter.unusedSimpArgs false
namespace Go.Proofs.YtdjhfeaimmpmhaaGreat
open Go.RowKit

theorem Own.whole {w : World} {B : Nat} {e : TypeId} {g n : Nat} {vs : List Value} (h : Own w B e (.slice (some ⟨g, 0, none⟩) n n) vs) (hl : vs.length = n) : w.heap[g]? = some (.cells vs.toArray e (0, 0)) := by
  rcases h.cases with ⟨h, _⟩ | ⟨g', cap, cur, hv, _, _, hg, hc, _, hs, ht⟩
  · cases h
  · simp only [Value.slice.injEq, Option.some.injEq, Addr.mk.injEq, and_true, true_and] at hv
    obtain ⟨rfl, rfl, rfl⟩ := hv
    rw [hg]
    have : cur.toList = vs := by rw [← ht, hl, List.take_of_length_le (by rw [Array.length_toList, hs]; exact Nat.le_refl _)]
    rw [← this]
theorem Own.of_whole {w : World} {B : Nat} {e : TypeId} {g n : Nat} {vs : List Value} (h : w.heap[g]? = some (.cells vs.toArray e (0, 0))) (hl : vs.length = n) (hB : B ≤ g) (hn : n ≤ maxLen) : Own w B e (.slice (some ⟨g, 0, none⟩) n n) vs := by
  subst hl
  exact ⟨by simp, .inr ⟨g, _, _, rfl, hB, h, Nat.le_refl _, hn, by simp, by simp⟩⟩

set_option maxHeartbeats 1000000 in
theorem lib_Mul1 (w : World) (n : Nat) (h1 : 1 ≤ n) (h8 : n ≤ 8) :
    Calls Tryz.prog 240 #[.int .u64 1, .int .u64 (n : Int)] w fun e w' => e = .returned (.tuple #[.int .u64 0, .int .u64 (n : Int)]) ∧ w = w' := by
  have : n = 1 ∨ n = 2 ∨ n = 3 ∨ n = 4 ∨ n = 5 ∨ n = 6 ∨ n = 7 ∨ n = 8 := by omega
  rcases this with rfl | rfl | rfl | rfl | rfl | rfl | rfl | rfl
  all_goals
    go_enter Tryz.func240, Tryz.ntmps240
    go_wp2
    go_ret2
    exact ⟨rfl, rfl⟩

/-- m times g, then zeros up to n -/
def fillG (g : Int) (m n : Nat) : List Value := List.replicate m (Value.int .i64 g) ++ List.replicate (n - m) (Value.int .i64 0)
theorem fillG_len {g : Int} {m n : Nat} (h : m ≤ n) : (fillG g m n).length = n := by simp [fillG]; omega
theorem fillG_splice {g : Int} {m n c : Nat} (h : m + c ≤ n) : splice (fillG g m n) m (List.replicate c (Value.int .i64 g)) = fillG g (m + c) n := by
  unfold splice fillG
  rw [List.take_left' (by simp), List.length_replicate, List.drop_append]
  simp only [List.length_replicate, List.drop_replicate]
  rw [show m - (m + c) = 0 by omega, show m + c - m = c by omega, show n - m - c = n - (m + c) by omega]
  simp only [List.replicate_zero, List.nil_append]
  rw [← List.append_assoc, List.replicate_append_replicate]
theorem fillG_get {g : Int} {m n j : Nat} (h : j < m) : (fillG g m n)[j]? = some (Value.int .i64 g) := by
  unfold fillG
  rw [List.getElem?_append_left (by simpa using h)]
  simp [h]

theorem size_int : (Tryz.prog.info? tI).map (·.size) = some 1 := by kernel_rfl

theorem copy_src {w w1 : World} {ad : Addr} {g : Int} (hb : Below w.heap.size w w1) (hc : w.cell? (ad.add 0) = some (.int .i64 g)) : ∀ (j : Nat) (u : Value), [Value.int .i64 g][j]? = some u → w1.cell? (ad.add j) = some u := by
  intro j u hj
  cases j with
  | zero =>
    simp at hj; subst hj
    rw [hb.cell (World.block_lt_of_cell? w _ hc)]; exact hc
  | succ j => simp at hj

set_option maxHeartbeats 1000000 in
theorem lib_Repeat1 (w : World) (v : Value) (g : Int) (n : Nat) (ha : Ints w v [g]) (h1 : 1 ≤ n) (h8 : n ≤ 8) :
    Calls Tryz.prog 226 #[v, .int .i64 (n : Int)] w fun e w' => ∃ r, e = .returned r ∧ OwnInts w' w.heap.size tI r (List.replicate n g) ∧ Below w.heap.size w w' := by
  have HA := Lib.hid ha
  obtain ⟨A, c, rfl, l1, l2, l3⟩ := ha.open_
  obtain ⟨ad, z, rfl, hz, hz2, hc⟩ := l3 0 (by simp)
  obtain rfl : g = z := by simpa using hz
  have HC0 := Lib.hid hc
  clear l3 ha hz hc
  have H64 := Lib.hid hz2
  clear hz2
  go_enter Tryz.func226, Tryz.ntmps226
  go_wp2_with fail
  refine (lib_Mul1 _ n h1 h8).mono ?_
  rintro e w' ⟨rfl, rfl⟩
  go_wp2_with (first | (at_make; refine wpList_mk rfl _ _ _ rfl _ _ _ T_int n _ (by rfl) (by rfl) (by rfl) (by omega) _ ?_; intro w1 hown hb hs1; have HOWN := Lib.hid hown; have HB1 := Lib.hid hb; clear hown hb) | (refine wpList_copy_splice rfl (.tmp 31) (.tmp 32) _ _ (by rfl) tI T_int.under size_int (some ⟨w.heap.size, 0, none⟩) (some ad) n n 1 c (by rfl) (by rfl) w.heap.size 0 (fillG g 0 n) tI (by simpa [fillG] using HOWN.out.whole (by simp)) [.int .i64 g] (Nat.min_eq_left h1).symm (fun _ => ⟨rfl, ad, rfl, copy_src HB1.out HC0.out⟩) (by rw [fillG_len (by omega)]; simp; omega) (by simp [Value.oneCell']) w.heap.size w HB1.out (Nat.le_refl _) ?_; intro w2 hg2 hb2; have HB2 := Lib.hid hb2; clear hb2))
  have hg3 : Hid (w2.heap[w.heap.size]? = some (.cells (fillG g 1 n).toArray tI (0, 0))) := by
    have e : splice (fillG g 0 n) 0 [Value.int .i64 g] = fillG g 1 n := by simpa using fillG_splice (g := g) (m := 0) (c := 1) (n := n) (by omega)
    have := hg2.out
    rw [e] at this
    exact this
  clear hg2 HB1 HOWN
  go_loopw [8] (fun i wr => ∃ m : Nat, 1 ≤ m ∧ m ≤ n ∧ i = .int .i64 m ∧ Hid (wr.heap[w.heap.size]? = some (.cells (fillG g m n).toArray tI (0, 0))) ∧ Below w.heap.size w wr) (fun i _ => n - (intOf i).toNat)
  case atStart => exact ⟨1, Nat.le_refl _, h1, rfl, hg3, HB2.out⟩
  case round =>
    obtain ⟨m, hm1, hmn, rfl, hgm, hb⟩ := hrel
    clear hg3 HB2
    have HB := Lib.hid hb
    clear hb
    by_cases hlt : m < n
    · have hlt' : (m : Int) < (n : Int) := by omega
      have hne : ¬ n = m := by omega
      have hm0 : (0 : Int) ≤ (m : Int) := by omega
      have hmle : (m : Int) ≤ (n : Int) := by omega
      have hcm : m + Nat.min m (n - m) ≤ n := by
        have : Nat.min m (n - m) ≤ n - m := Nat.min_le_right _ _
        omega
      have hc1 : 1 ≤ Nat.min m (n - m) := Nat.le_min.2 ⟨hm1, by omega⟩
      have HSP := Lib.hid (fillG_splice (g := g) hcm)
      have HSRC := Lib.hid (show ∀ (j : Nat) (u : Value), (List.replicate (Nat.min m (n - m)) (Value.int .i64 g))[j]? = some u → wr.cell? ((⟨w.heap.size, 0, none⟩ : Addr).add j) = some u from fun j u hj => by
        have hj1 := (List.getElem?_eq_some_iff.1 hj).1
        simp only [List.length_replicate] at hj1
        have hjm : j < m := by have : Nat.min m (n - m) ≤ m := Nat.min_le_left _ _; omega
        have hju : u = .int .i64 g := by
          obtain ⟨_, e⟩ := List.getElem?_eq_some_iff.1 hj
          simp at e
          exact e.symm
        subst hju
        rw [Addr.add_lit, Nat.zero_add, cell_of_row wr _ j _ tI (0, 0) hgm.out]
        simpa using fillG_get hjm)
      generalize hcc : Nat.min m (n - m) = cc at hcm hc1 HSP HSRC
      have HCC := Lib.hid hcc
      clear hcc
      have wcc : IntKind.i64.wrap ((m : Int) + (cc : Int)) = (m : Int) + (cc : Int) := IntWalk.i64_in _ (by omega)
      go_wp2_with fail
      go_region_held3 (fun _ => True) (exact trivial) ((refine step_copy_splice rfl (.tmp 41) (.tmp 44) 24 24 (by rfl) tI T_int.under size_int (some ⟨w.heap.size, m, none⟩) (some ⟨w.heap.size, 0, none⟩) (n - m) (n - m) m n (by rfl) (by rfl) w.heap.size m (fillG g m n) tI hgm.out (List.replicate cc (.int .i64 g)) (by rw [List.length_replicate]; exact HCC.out.symm) (fun _ => ⟨rfl, _, rfl, HSRC.out⟩) (by rw [List.length_replicate, fillG_len hmn]; exact hcm) (by intro v hv; obtain ⟨_, rfl⟩ := List.mem_replicate.1 hv; rfl) w.heap.size w HB.out.drew (Nat.le_refl _) ?_; intro w4 hg4 hb4))
      have HG4 : Hid (w4.heap[w.heap.size]? = some (.cells (fillG g (m + cc) n).toArray tI (0, 0))) := by
        have := hg4.out
        rw [HSP.out] at this
        exact this
      have HB4 := Lib.hid hb4
      clear hg4 hb4
      go_wp2_with fail
      go_roundw
      case rel => exact ⟨m + cc, by omega, hcm, by go_num, HG4, HB4.out⟩
      case measure => simp [intOf]; omega
    · have : m = n := by omega
      subst this
      go_wp2_with fail
      go_ret
      have e : fillG g m m = ints (List.replicate m g) := by simp [fillG, ints]
      have hh := hgm.out
      rw [e] at hh
      refine ⟨_, rfl, ⟨Own.of_whole hh (by simp [ints]) (Nat.le_refl _) (by simp only [maxLen]; omega), fun z hz => ?_⟩, HB.out⟩
      obtain ⟨_, rfl⟩ := List.mem_replicate.1 hz
      exact H64.out
end Go.Proofs.YtdjhfeaimmpmhaaGreat

set_option maxRecDepth 100000
set_option linter.unusedVariables false
set_option linter.unusedSimpArgs false
namespace Go.Proofs.YtdjhfeaimmpmhaaGreat
open Go.RowKit

theorem sR_bd {s : Nat} {f : Nat → Int} {M : Int} (h : ∀ i, i < s → 0 ≤ f i ∧ f i ≤ M) : 0 ≤ sR s f ∧ sR s f ≤ (s : Int) * M := by
  induction s with
  | zero => rw [sR_zero]; simp
  | succ s ih =>
    have h1 := ih fun i hi => h i (by omega)
    have h2 := h s (by omega)
    rw [sR_succ, show ((s + 1 : Nat) : Int) * M = (s : Int) * M + M by rw [Int.natCast_add, Int.add_mul]; simp]
    omega
def dtF (a b : List Int) (k : Nat) : Int := a.getD k 0 * b.getD k 0
def dtZ (a b : List Int) : Int := sR a.length (dtF a b) % 10007
theorem SqT.of {A : List (List Int)} {B : List Int} (h : IsTab A B) : SqT A B B.length := ⟨h.len, rfl, fun r hr => ⟨nums_iff.1 (h.row r hr).2, (h.row r hr).1⟩, nums_iff.1 h.num⟩
theorem getD_bd {a : List Int} (h : Nums a) (k : Nat) : 0 ≤ a.getD k 0 ∧ a.getD k 0 ≤ 10006 := by
  rw [List.getD_eq_getElem?_getD]
  cases hk : a[k]? with
  | none => simp
  | some z => exact h z (List.mem_of_getElem? hk)
set_option maxHeartbeats 4000000 in
theorem i_dot (w : World) (va vb : Value) (a b : List Int) (h1 : Ints w va a) (h2 : Ints w vb b) (n1 : Nums a) (n2 : Nums b) (hl : a.length ≤ b.length) (hn : a.length ≤ 1000) :
    Calls Tryz.prog 198 #[va, vb] w fun e w' => e = .returned (.int .i64 (dtZ a b)) ∧ w = w' := by
  obtain ⟨A, c, rfl, -, -, h3⟩ := h1.open_
  obtain ⟨A', c', rfl, -, -, g3⟩ := h2.open_
  have H3 := Lib.hid h3
  have G3 := Lib.hid g3
  have HBD := Lib.hid (show ∀ k, k ≤ a.length → 0 ≤ sR k (dtF a b) ∧ sR k (dtF a b) ≤ 1000 * 100120036 from fun k hk => by
    have h := sR_bd (s := k) (f := dtF a b) (M := 100120036) (fun i _ => by
      have x := getD_bd n1 i
      have y := getD_bd n2 i
      obtain ⟨p1, p2⟩ := mul_bd 10006 10006 x.1 x.2 y.1 y.2
      unfold dtF
      omega)
    omega)
  have HN := Lib.hid (show ∀ k, 0 ≤ dtF a b k ∧ dtF a b k ≤ 100120036 from fun k => by
    have x := getD_bd n1 k
    have y := getD_bd n2 k
    obtain ⟨p1, p2⟩ := mul_bd 10006 10006 x.1 x.2 y.1 y.2
    unfold dtF
    omega)
  have HZ := Lib.hid (show dtZ a b = sR a.length (dtF a b) % 10007 from rfl)
  clear h1 h2 h3 g3 n1 n2
  generalize dtZ a b = dz at HZ ⊢
  go_enter Tryz.func198, Tryz.ntmps198
  go_wp2_with fail
  go_loopw [5, 10] (fun s x wr => ∃ k : Nat, k ≤ a.length ∧ x = .int .i64 k ∧ s = .int .i64 (sR k (dtF a b)) ∧ wr = w) (fun _ x _ => a.length - (intOf x).toNat)
  case atStart => exact ⟨0, Nat.zero_le _, rfl, by rw [sR_zero], rfl⟩
  case round =>
    obtain ⟨k, hk, rfl, rfl, rfl⟩ := hrel
    have hsb := HBD.out k hk
    by_cases hlt : k < a.length
    · obtain ⟨ad, x, rfl, hx, -, hcx⟩ := H3.out k hlt
      obtain ⟨ad', y, rfl, hy, -, hcy⟩ := G3.out k (by omega)
      have hxy := HN.out k
      have e : dtF a b k = x * y := by unfold dtF; rw [List.getD_eq_getElem?_getD, List.getD_eq_getElem?_getD, hx, hy]; rfl
      have HS := Lib.hid (show sR (k + 1) (dtF a b) = sR k (dtF a b) + x * y from by rw [sR_succ, e])
      rw [e] at hxy
      generalize sR k (dtF a b) = sm at *
      obtain ⟨m, hm⟩ : ∃ m, m = x * y := ⟨_, rfl⟩
      rw [← hm] at hxy HS
      have hw1 : wrap64 (x * y) = m := by rw [← hm]; exact w64_in' _ (by omega)
      have hw2 : IntKind.i64.wrap (x * y) = m := by rw [← hm]; exact IntWalk.i64_in _ (by omega)
      have hw3 : wrap64 (sm + m) = sm + m := w64_in' _ (by omega)
      have hw4 : IntKind.i64.wrap (sm + m) = sm + m := IntWalk.i64_in _ (by omega)
      have hkk : (k : Int) < (a.length : Int) := by omega
      have hkb : (k : Int) < (b.length : Int) := by omega
      have hkb' : k < b.length := by omega
      clear hm hx hy e hsb hxy
      go_wp2_with fail
      go_roundw
      case rel => exact ⟨k + 1, by omega, by go_num, by rw [HS.out], by first | rfl | trivial⟩
      case measure => simp [intOf]; omega
    · have hkl : k = a.length := by omega
      subst hkl
      generalize sR a.length (dtF a b) = sm at *
      go_wp2_with (go_at_call 60; refine (i_num sm _ (by omega) (by omega)).mono ?_; rintro e w' ⟨rfl, rfl⟩)
      go_ret
      exact ⟨ret_i64 HZ.out.symm, rfl⟩
/-- the matrix times a list -/
def mulR (A : List (List Int)) (v : List Int) : List Int := A.map fun r => dtZ r v
theorem mulR_get {A : List (List Int)} {v r : List Int} {i : Nat} (h : A[i]? = some r) : (mulR A v)[i]? = some (dtZ r v) := by unfold mulR; rw [List.getElem?_map, h]; rfl
theorem dtZ_num (a b : List Int) : 0 ≤ dtZ a b ∧ dtZ a b ≤ 10006 := by unfold dtZ; omega
theorem mulR_nums (A : List (List Int)) (v : List Int) : Nums (mulR A v) := by
  intro z hz
  obtain ⟨r, -, rfl⟩ := List.mem_map.1 hz
  exact dtZ_num r v
theorem mulR_len (A : List (List Int)) (v : List Int) : (mulR A v).length = A.length := by simp [mulR]
set_option maxHeartbeats 8000000 in
theorem im_applied (w : World) (v vb : Value) (A : List (List Int)) (Bs b : List Int) (ha : TabArg w v A Bs) (h2 : Ints w vb b) (hA : ∀ r ∈ A, Nums r ∧ r.length ≤ b.length) (n2 : Nums b) (hn : A.length ≤ 1000) (hb : b.length ≤ 1000) :
    Calls Tryz.prog 227 #[v, vb] w fun e w' => ∃ x, e = .returned x ∧ OwnInts w' w.heap.size tI x (mulR A b) ∧ Below w.heap.size w w' := by
  obtain ⟨va, vb2, rfl, ha1, ha2⟩ := ha
  have BB := Lib.hid (below1 w (.cells #[va, vb2] 45))
  have HR := Lib.hid (ha1.below BB.out)
  have HV := Lib.hid (h2.below BB.out)
  obtain ⟨A1, c1, rfl, -, -, -⟩ := ha1.open_
  obtain ⟨A2, c2, rfl, -, -, -⟩ := ha2.open_
  obtain ⟨A3, c3, rfl, -, -, -⟩ := h2.open_
  have HA := Lib.hid hA
  have HN := Lib.hid n2
  obtain ⟨W, hW⟩ : ∃ W, W = w.alloc (.cells #[.slice A1 A.length c1, .slice A2 Bs.length c2] 45) := ⟨_, rfl⟩
  have HK := Lib.hid (show Blk W w.heap.size 45 #[.slice A1 A.length c1, .slice A2 Bs.length c2] from by rw [hW]; exact Blk.new _ _ _)
  rw [← hW] at BB HR HV
  have OL := Lib.hid (show Own (W.alloc (.cells #[] tI)) W.heap.size tI (.slice (some ⟨W.heap.size, 0, none⟩) 0 0) (ints []) from own_lit W tI [] (by simp [maxLen]))
  have k0 : ∀ o, (W.alloc o).cell? ⟨w.heap.size, 0, none⟩ = some (.slice A1 A.length c1) := fun o => (HK.out.alloc o).cell 0
  clear ha1 ha2 h2 hA n2
  go_enter Tryz.func227, Tryz.ntmps227
  go_upto_region 1 with fail
  rw [← hW]
  clear hW
  go_wp2_with fail
  clear k0
  go_loopw [5, 12] (fun o x wr => ∃ i : Nat, i ≤ A.length ∧ x = .int .i64 i ∧ Own wr W.heap.size tI o (ints ((mulR A b).take i)) ∧ Below W.heap.size W wr) (fun _ x _ => A.length - (intOf x).toNat)
  case atStart => exact ⟨0, Nat.zero_le _, rfl, OL.out, below1 W _⟩
  case round =>
    obtain ⟨i, hi, rfl, ho, hb⟩ := hrel
    rename World => wq
    clear OL
    have hel : ((mulR A b).take i).length = i := by rw [List.length_take, mulR_len]; omega
    have hol := ho.cells.open_
    rw [ints_len, hel] at hol
    obtain ⟨Ao, co, rfl, -, -⟩ := hol
    have HEL := Lib.hid hel
    have HO := Lib.hid ho
    have HBQ := Lib.hid hb
    clear ho hb hel
    by_cases hlt : i < A.length
    · obtain ⟨A1', c1', he, -, -, h3⟩ := (HR.out.below HBQ.out).open_
      simp only [Value.slice.injEq, true_and] at he
      obtain ⟨rfl, rfl⟩ := he
      obtain ⟨ad, u, r, rfl, hr, hu, hc⟩ := h3 i hlt
      obtain ⟨hrn, hrl⟩ := HA.out r (List.mem_of_getElem? hr)
      have HD := Lib.hid (i_dot wq u _ r b hu (HV.out.below HBQ.out) hrn HN.out hrl (by omega))
      have HTS := Lib.hid (show ints ((mulR A b).take (i + 1)) = ints ((mulR A b).take i) ++ [.int .i64 (dtZ r b)] from by rw [List.take_add_one, mulR_get hr, ints, ints, List.map_append]; rfl)
      have hii : (i : Int) < (A.length : Int) := by omega
      generalize dtZ r b = dd at HD HTS
      clear h3 hr hu hrn hrl
      go_wp2_with (first
        | (go_at_call 198; refine HD.out.mono ?_; rintro e w5 ⟨rfl, rfl⟩)
        | (at_builtin; go_loud (refine wpList_app1 T_int HO.out (by rw [ints_len, HEL.out]; omega) HBQ.out.size (by rfl) rfl (by rfl) (by rfl) (by rfl) ?_; intro v1 w6 hown1 hgr1; have HNN := Lib.hid hown1; have HGR := Lib.hid hgr1; clear hown1 hgr1)))
      go_roundw
      case rel => exact ⟨i + 1, by omega, by go_num, by rw [HTS.out]; exact HNN.out, HGR.out.below HBQ.out HBQ.out.size HO.out.ge⟩
      case measure => simp [intOf]; omega
    · have hil : (mulR A b).take i = mulR A b := List.take_of_length_le (by rw [mulR_len]; omega)
      have hii : ¬ ((i : Int) < (A.length : Int)) := by omega
      rw [hil] at HO
      go_wp2_with fail
      go_ret
      exact ⟨_, rfl, ⟨HO.out.mono BB.out.size, fun z hz => in64_num (mulR_nums A b z hz)⟩, BB.out.trans (HBQ.out.mono BB.out.size)⟩
/-- the matrix times the stage weights -/
theorem mulR_st {A : List (List Int)} {B : List Int} {s p : Nat} (h : SqT A B s) (h0 : 0 < p) : mulR A (stL A s p) = apL A s p := by
  refine List.ext_getElem? fun i => ?_
  by_cases hi : i < s
  · have hr : A[i]? = some (A[i]'(by rw [h.la]; exact hi)) := List.getElem?_eq_getElem _
    rw [mulR_get hr, apL_get A s p hi, ← row_ap A s i h0]
    unfold dtZ
    have hl : (A[i]'(by rw [h.la]; exact hi)).length = s := (h.rows _ (List.getElem_mem _)).2
    rw [hl]
    congr 1
    have : sR s (dtF (A[i]'(by rw [h.la]; exact hi)) (stL A s p)) = sR s (fun k => fT A i k * (stL A s p).getD k 0) := sR_congr fun k hk => by
      unfold dtF fT
      rw [List.getD_eq_getElem?_getD (l := A), hr]
      rfl
    rw [this]
  · rw [List.getElem?_eq_none (by rw [mulR_len, h.la]; omega), List.getElem?_eq_none (by unfold apL; simp; omega)]
theorem stL_len (A : List (List Int)) (s p : Nat) : (stL A s p).length = s := by simp [stL]
theorem stB_len (A : List (List Int)) (s : Nat) (qs : List Nat) : (stB A s qs).length = s := by simp [stB]
theorem apL_len (A : List (List Int)) (s p : Nat) : (apL A s p).length = s := by simp [apL]
theorem stL_nums (A : List (List Int)) (s p : Nat) : Nums (stL A s p) := by
  intro z hz
  obtain ⟨i, -, rfl⟩ := List.mem_map.1 hz
  show 0 ≤ wt s (fT A) zeroV i p % 10007 ∧ wt s (fT A) zeroV i p % 10007 ≤ 10006
  omega
/-- the stage weights while a branch is multiplied in: the first i stages have it -/
def mxL (A : List (List Int)) (s : Nat) (qs : List Nat) (q i : Nat) : List Int := (stB A s (qs ++ [q])).take i ++ (stB A s qs).drop i
theorem mxL_len (A : List (List Int)) (s : Nat) (qs : List Nat) (q i : Nat) (hi : i ≤ s) : (mxL A s qs q i).length = s := by
  unfold mxL
  rw [List.length_append, List.length_take, List.length_drop, stB_len, stB_len]
  omega
theorem mxL_get (A : List (List Int)) (s : Nat) (qs : List Nat) (q : Nat) {i : Nat} (hi : i < s) : (mxL A s qs q i)[i]? = some (pz (uV s (fT A) i) qs % 10007) := by
  unfold mxL
  rw [List.getElem?_append_right (by rw [List.length_take]; omega), List.length_take, stB_len, Nat.min_eq_left (by omega), Nat.sub_self, List.getElem?_drop, Nat.add_zero]
  exact stB_get A s qs hi
theorem mxL_step (A : List (List Int)) (s : Nat) (qs : List Nat) (q : Nat) {i : Nat} (hi : i < s) : (mxL A s qs q i).set i (pz (uV s (fT A) i) qs % 10007 * (uV s (fT A) i q % 10007) % 10007) = mxL A s qs q (i + 1) := by
  rw [stB_step]
  refine List.ext_getElem? fun k => ?_
  have hl := mxL_len A s qs q i (by omega)
  rw [List.getElem?_set]
  unfold mxL at hl ⊢
  by_cases hki : i = k
  · subst hki
    rw [if_pos rfl, if_pos (by rw [hl]; exact hi), List.getElem?_append_left (by rw [List.length_take, stB_len]; omega), List.getElem?_take_of_lt (by omega), stB_get A s _ hi]
  · rw [if_neg hki]
    by_cases hlt : k < i
    · rw [List.getElem?_append_left (by rw [List.length_take, stB_len]; omega), List.getElem?_append_left (by rw [List.length_take, stB_len]; omega), List.getElem?_take_of_lt hlt, List.getElem?_take_of_lt (by omega)]
    · rw [List.getElem?_append_right (by rw [List.length_take, stB_len]; omega), List.getElem?_append_right (by rw [List.length_take, stB_len]; omega), List.length_take, List.length_take, stB_len, List.getElem?_drop, List.getElem?_drop]
      congr 1
      omega
theorem mxL_zero (A : List (List Int)) (s : Nat) (qs : List Nat) (q : Nat) : mxL A s qs q 0 = stB A s qs := by simp [mxL]
theorem mxL_full (A : List (List Int)) (s : Nat) (qs : List Nat) (q : Nat) : mxL A s qs q s = stB A s (qs ++ [q]) := by
  unfold mxL
  rw [List.take_of_length_le (by rw [stB_len]; omega), List.drop_eq_nil_of_le (by rw [stB_len]; omega), List.append_nil]
end Go.Proofs.YtdjhfeaimmpmhaaGreat

set_option maxRecDepth 100000
set_option linter.unusedVariables false
set_option linter.unusedSimpArgs false
namespace Go.Proofs.YtdjhfeaimmpmhaaGreat
open Go.RowKit

theorem mod_num' (x : Int) : 0 ≤ x % 10007 ∧ x % 10007 ≤ 10006 := by omega
theorem sgtrans {w w1 w2 : World} {b : Option Nat} (h : w.grownBy w1 b) (h' : w1.grownBy w2 b) : w.grownBy w2 b :=
  ⟨h'.os.trans h.os, h'.tape.trans h.tape, h'.output.trans h.output, Nat.le_trans h.size h'.size, fun k hk hne => (h'.block k (Nat.lt_of_lt_of_le hk h.size) hne).trans (h.block k hk hne)⟩
theorem sgof {w w' : World} {r : Option Nat} (h : Below w.heap.size w w') : w.grownBy w' r := ⟨h.os, h.tape, h.output, h.size, fun k hk _ => h.block k hk⟩
theorem Own.keptLt {w w' : World} {B g : Nat} {e : TypeId} {v : Value} {vs : List Value} (h : Own w B e v vs) (hg : w.grownBy w' (some g)) (hlt : g < B) : Own w' B e v vs := h.kept hg (by
  cases hb : v.ownBlock with
  | none => exact .inl rfl
  | some b => exact .inr fun e => by injection e with e; have := h.ge b hb; omega)
theorem LL.keptLt {w w' : World} {B g : Nat} {v : Value} {xss : List (List Int)} (h : LL w B v xss) (hg : w.grownBy w' (some g)) (hlt : g < B) : LL w' B v xss := by
  obtain ⟨vs, h1, h2⟩ := h
  exact ⟨vs, h1.keptLt hg hlt, h2.1, fun k u zs hu hz => ⟨(h2.2 k u zs hu hz).1.keptLt hg hlt, (h2.2 k u zs hu hz).2⟩⟩
/-- a row of a list of trees -/
theorem Rows.treeB {w : World} {A : Option Addr} {n c : Nat} {F : List (List Nat)} (h : Rows w (.slice A n c) (F.map up)) {i : Nat} (hi : i < n) :
    ∃ ad At ct t, A = some ad ∧ F[i]? = some t ∧ Ints w (.slice At t.length ct) (up t) ∧ w.cell? (ad.add i) = some (.slice At t.length ct) := by
  obtain ⟨A', c', he, -, -, h3⟩ := h.open_
  simp only [Value.slice.injEq] at he
  obtain ⟨rfl, hn, rfl⟩ := he
  obtain ⟨ad, u, zs, hA, hz, hu, hc⟩ := h3 i (by omega)
  rw [List.getElem?_map] at hz
  cases ht : F[i]? with
  | none => rw [ht] at hz; cases hz
  | some t =>
    rw [ht] at hz
    injection hz with hz
    subst hz
    obtain ⟨Au, cu, rfl, -, -, -⟩ := hu.open_
    rw [up_len] at hu hc
    exact ⟨ad, Au, cu, t, hA, rfl, hu, hc⟩
def okTl (n : Nat) : Bool := Nat.ble (tr n).length 6 && (tr n).all fun l => Nat.ble l 6
theorem tl1 : (List.range 37).all okTl = true := by decide +kernel
theorem tl_at {n : Nat} (h : n < 37) : (tr n).length ≤ 6 ∧ ∀ l ∈ tr n, l ≤ 1000000 := by
  have h1 := tl1
  rw [List.all_eq_true] at h1
  have h2 := h1 n (List.mem_range.2 h)
  unfold okTl at h2
  rw [Bool.and_eq_true, List.all_eq_true] at h2
  exact ⟨Nat.le_of_ble_eq_true h2.1, fun l hl => by have := Nat.le_of_ble_eq_true (h2.2 l hl); omega⟩
set_option maxHeartbeats 32000000 in
theorem im_stageWeights {A : List (List Int)} {Bs : List Int} (hT : SqT A Bs Bs.length) (h1 : 1 ≤ Bs.length) (h8 : Bs.length ≤ 8) : ∀ (m n : Nat), n < m → n < 37 → ∀ (w : World) (va vt : Value), TabArg w va A Bs → Ints w vt (up (tr n)) →
    Calls Tryz.prog 199 #[va, vt] w fun e w' => ∃ x, e = .returned x ∧ OwnInts w' w.heap.size tI x (stL A Bs.length (n + 1)) ∧ Below w.heap.size w w' := by
  intro m
  induction m with
  | zero => intro n h; omega
  | succ m ih =>
    intro n hnm hn37 w va vt ha ht
    have IH := Lib.hid ih
    obtain ⟨bs, hbr, hball, hbt⟩ := br_bt hn37
    obtain ⟨htl, hlv⟩ := tl_at hn37
    have HSE := Lib.hid (stB_end A Bs.length hn37 hbt)
    have HBL := Lib.hid hball
    have HTT := Lib.hid hT
    obtain ⟨va1, vb1, rfl, ha1, ha2⟩ := ha
    obtain ⟨A1, c1, rfl, -, -, -⟩ := ha1.open_
    obtain ⟨A2, c2, rfl, -, -, -⟩ := ha2.open_
    obtain ⟨At, ct, rfl, -, -, -⟩ := ht.open_
    have HAL := Lib.hid (show A.length ≤ 1000 from by rw [hT.la]; omega)
    rw [up_len] at ht ⊢
    obtain ⟨W, hW⟩ : ∃ W, W = w.alloc (.cells #[.slice A1 A.length c1, .slice A2 Bs.length c2] 45) := ⟨_, rfl⟩
    have hbw : Below w.heap.size w W := by rw [hW]; exact below1 w _
    have HSZW := Lib.hid (show W.heap.size = w.heap.size + 1 from by rw [hW]; simp)
    have HBW := Lib.hid hbw
    have HK := Lib.hid (show Blk W w.heap.size 45 #[.slice A1 A.length c1, .slice A2 Bs.length c2] from by rw [hW]; exact Blk.new _ _ _)
    have HTA := Lib.hid (show TabArg W (.agg #[.slice A1 A.length c1, .slice A2 Bs.length c2]) A Bs from ⟨_, _, rfl, ha1.below hbw, ha2.below hbw⟩)
    have HTR := Lib.hid (ht.below hbw)
    have k0 : ∀ o, (W.alloc o).cell? ⟨w.heap.size, 0, none⟩ = some (.slice A1 A.length c1) := fun o => (HK.out.alloc o).cell 0
    have k1 : ∀ o, (W.alloc o).cell? ⟨w.heap.size, 1, none⟩ = some (.slice A2 Bs.length c2) := fun o => (HK.out.alloc o).cell 1
    clear ha1 ha2 ht ih hbt hball hT hbw
    go_enter Tryz.func199, Tryz.ntmps199
    go_upto_region 1 with fail
    rw [← hW]
    clear hW
    have HL1 := Lib.hid (show Ints (W.alloc (.cells #[.int .i64 1] tI)) (.slice (some ⟨W.heap.size, 0, none⟩) 1 1) [1] from ⟨(own_lit W tI [.int .i64 1] (by simp [maxLen])).cells, fun z hz => by simp at hz; subst hz; unfold In64; omega⟩)
    have HB1 := Lib.hid (below1 W (.cells #[.int .i64 1] tI))
    go_upto_region 3 with (first
      | (go_at_call 101; go_loud ((with_reducible refine (im_stages _ _ A Bs (HTA.out.below HB1.out)).mono ?_); rintro e w2 ⟨rfl, hb2⟩; have HB2 := Lib.hid (HB1.out.trans (hb2.mono HB1.out.size)); have HL2 := Lib.hid (HL1.out.below hb2); clear hb2))
      | (go_at_call 226; go_loud ((with_reducible refine (lib_Repeat1 _ _ 1 Bs.length HL2.out h1 h8).mono ?_); rintro e w3 ⟨x3, rfl, ho3, hb3⟩; rcases ho3.1.cases with ⟨-, he⟩ | ⟨g, cap, cur, he, hga, hgb, -⟩; (· have h5 := congrArg List.length he; rw [ints_len, List.length_replicate, List.length_nil] at h5; omega); rw [ints_len, List.length_replicate] at he; subst he; have HO3 := Lib.hid ho3; have HB3 := Lib.hid (HB2.out.trans (hb3.mono HB2.out.size)); have HB23 := Lib.hid hb3; clear ho3 hb3))
      | (go_at_call 193; go_loud ((with_reducible refine (i_branchesOf _ _ (tr n) bs (HTR.out.below HB3.out) hbr (by omega) hlv).mono ?_); rintro e w4 ⟨x4, rfl, hl4, hb4⟩; obtain ⟨A4, c4, he4, -, -, -⟩ := hl4.rows.open_; rw [List.length_map] at he4; subst he4; have HL4 := Lib.hid hl4; have HO4 := Lib.hid (HO3.out.below hb4); have HB4 := Lib.hid (HB3.out.trans (hb4.mono HB3.out.size)); have HB24 := Lib.hid (HB23.out.trans (hb4.mono HB23.out.size)); have hg3 : g < w3.heap.size := hgb; have hg4 : g < w4.heap.size := (Nat.lt_of_lt_of_le hgb hb4.size); clear hl4 hb4)))
    have hWg : W.heap.size ≤ g := Nat.le_trans HB2.out.size hga
    have HT2 := Lib.hid (HTA.out.below HB2.out)
    have HK2 := Lib.hid (HK.out.below HB2.out (by have := HSZW.out; omega))
    have HO0 := Lib.hid (show OwnInts w4 w2.heap.size tI (.slice (some ⟨g, 0, none⟩) Bs.length cap) (stB A Bs.length ((bs.map (idxN T6n)).take 0)) from by rw [List.take_zero, stB_nil]; exact HO4.out)
    clear k0 k1 HL1 HL2 HO3 HO4 hgb HTR
    have HBS := Lib.hid (show bs.length ≤ 1000 from (brO_lens hbr (N := 1000) (by omega)).1)
    have hbs := HBS.out
    generalize hs : Bs.length = s at *
    have HS := Lib.hid hs
    clear hs
    go_loopw [17] (fun x wr => ∃ j : Nat, j ≤ bs.length ∧ x = .int .i64 j ∧ OwnInts wr w2.heap.size tI (.slice (some ⟨g, 0, none⟩) s cap) (stB A s ((bs.map (idxN T6n)).take j)) ∧ w4.grownBy wr (some g) ∧ Below w2.heap.size w2 wr) (fun x _ => bs.length - (intOf x).toNat)
    case atStart => exact ⟨0, Nat.zero_le _, rfl, HO0.out, World.grownBy.refl _ _, HB24.out⟩
    case round =>
      obtain ⟨j, hj, rfl, ho, hg, hb⟩ := hrel
      rename World => wq
      clear HO0 HB24
      have HO := Lib.hid ho
      have HG := Lib.hid hg
      have HB := Lib.hid hb
      clear ho hg hb
      by_cases hlt : j < bs.length
      · obtain ⟨ad, Ab, cb, b, rfl, hb, hbi, hcb⟩ := (HL4.out.keptLt HG.out hg3).rows.treeB hlt
        obtain ⟨e1, e2, e3⟩ := HBL.out b (List.mem_of_getElem? hb)
        obtain ⟨p, hp⟩ : ∃ p, idxN T6n b = p + 1 := ⟨idxN T6n b - 1, by omega⟩
        rw [hp] at e2 e3
        rw [Nat.add_sub_cancel] at e3
        have HQT := Lib.hid (show (bs.map (idxN T6n)).take (j + 1) = (bs.map (idxN T6n)).take j ++ [p + 1] from by rw [List.take_add_one, List.getElem?_map, hb, Option.map_some, hp]; rfl)
        have HROW := Lib.hid hbi
        have HTQ := Lib.hid (HT2.out.below HB.out)
        have HKQ := Lib.hid (HK2.out.below HB.out (by have := HB2.out.size; have := HSZW.out; omega))
        have HSW := Lib.hid (show ∀ X, Below wq.heap.size wq X → Calls Tryz.prog 199 #[.agg #[.slice A1 A.length c1, .slice A2 s c2], .slice Ab b.length cb] X (fun e w' => ∃ x, e = .returned x ∧ OwnInts w' wq.heap.size tI x (stL A s (p + 1)) ∧ Below wq.heap.size wq w') from fun X hX => by
          have h := IH.out p (by omega) (by omega) X (.agg #[.slice A1 A.length c1, .slice A2 s c2]) (.slice Ab b.length cb) (HTQ.out.below hX) (by rw [e3]; exact HROW.out.below hX)
          refine h.mono ?_
          rintro e w5 ⟨r5, rfl, ho5, hb5⟩
          exact ⟨r5, rfl, ho5.mono hX.size, hX.trans (hb5.mono hX.size)⟩)
        have HAP := Lib.hid (show ∀ X r, Below wq.heap.size wq X → Ints X r (stL A s (p + 1)) → Calls Tryz.prog 227 #[.agg #[.slice A1 A.length c1, .slice A2 s c2], r] X (fun e w' => ∃ x, e = .returned x ∧ OwnInts w' wq.heap.size tI x (apL A s (p + 1)) ∧ Below wq.heap.size wq w') from fun X r hX hr => by
          have h := im_applied X (.agg #[.slice A1 A.length c1, .slice A2 s c2]) r A Bs (stL A s (p + 1)) (HTQ.out.below hX) hr (fun r hr => ⟨(HTT.out.rows r hr).1, by rw [stL_len, (HTT.out.rows r hr).2]; exact Nat.le_refl _⟩) (stL_nums _ _ _) HAL.out (by rw [stL_len]; omega)
          rw [mulR_st HTT.out (Nat.succ_pos p)] at h
          refine h.mono ?_
          rintro e w5 ⟨r5, rfl, ho5, hb5⟩
          exact ⟨r5, rfl, ho5.mono hX.size, hX.trans (hb5.mono hX.size)⟩)
        have hii : (j : Int) < (bs.length : Int) := by omega
        have q0 : wq.cell? ⟨w.heap.size, 0, none⟩ = some (.slice A1 A.length c1) := HKQ.out.cell 0
        have q1 : wq.cell? ⟨w.heap.size, 1, none⟩ = some (.slice A2 s c2) := HKQ.out.cell 1
        clear hb hbi e1 e2 e3 hp
        go_upto_region 5 with fail
        go_cut [25, 26, 27] (fun a b c wx => ((∃ A6 c6, a = .slice A6 s c6 ∧ OwnInts wx wq.heap.size tI (.slice A6 s c6) (apL A s (p + 1))) ∧ b = .int .i64 (s : Nat) ∧ c = .int .i64 0) ∧ Below wq.heap.size wq wx)
        case first =>
          go_region_law (first
            | (go_simp; go_at_call 199; (with_reducible refine ((HSW.out _ ?_).mono ?_)); (first | exact Below.refl _ _ | exact (Below.refl _ _).drew); go_loud (rintro e w5 ⟨r5, rfl, ho5, hb5⟩; have HO5 := Lib.hid ho5; have HB5 := Lib.hid hb5; have m1 : w5.cell? ⟨w.heap.size, 0, none⟩ = some (.slice A1 A.length c1) := (HKQ.out.below hb5 HKQ.out.lt).cell 0; have m2 : w5.cell? ⟨w.heap.size, 1, none⟩ = some (.slice A2 s c2) := (HKQ.out.below hb5 HKQ.out.lt).cell 1; clear ho5 hb5))
            | (go_simp; go_at_call 227; (with_reducible refine ((HAP.out _ _ ?_ ?_).mono ?_)); (first | exact HB5.out | exact HB5.out.drew); (exact HO5.out.ints); go_loud (rintro e w6 ⟨r6, rfl, ho6, hb6⟩; obtain ⟨A6, c6, he6, -, -, -⟩ := ho6.ints.open_; rw [apL_len] at he6; subst he6; have HB6 := Lib.hid hb6; have HO6 := Lib.hid ho6; clear ho6 hb6)))
          all_goals
            go_wp2_with fail
            go_meet
            exact ⟨⟨⟨_, _, rfl, HO6.out⟩, rfl, rfl⟩, HB6.out⟩
        case rest =>
          obtain ⟨⟨⟨A6, c6, rfl, ho6⟩, rfl, rfl⟩, hb6⟩ := hcut
          rename World => w6
          have HO6 := Lib.hid ho6
          have HB6 := Lib.hid hb6
          clear ho6 hb6
          obtain ⟨qs, hqs⟩ : ∃ qs, qs = (bs.map (idxN T6n)).take j := ⟨_, rfl⟩
          rw [← hqs] at HO HQT
          have HO7 := Lib.hid (show OwnInts w6 w2.heap.size tI (.slice (some ⟨g, 0, none⟩) s cap) (mxL A s qs (p + 1) 0) from by rw [mxL_zero]; exact HO.out.below HB6.out)
          have HG6 := Lib.hid (sgtrans HG.out (sgof (r := some g) HB6.out))
          have HB26 := Lib.hid (HB.out.trans (HB6.out.mono HB.out.size))
          have hgq : g < wq.heap.size := Nat.lt_of_lt_of_le hg4 HG.out.size
          clear hqs q0 q1
          go_wp2_with fail
          go_loopw [27] (fun x wr => ∃ i : Nat, i ≤ s ∧ x = .int .i64 i ∧ OwnInts wr w2.heap.size tI (.slice (some ⟨g, 0, none⟩) s cap) (mxL A s qs (p + 1) i) ∧ w6.grownBy wr (some g) ∧ Below w2.heap.size w2 wr) (fun x _ => s - (intOf x).toNat)
          case atStart => exact ⟨0, Nat.zero_le _, rfl, HO7.out, World.grownBy.refl _ _, HB26.out⟩
          case round =>
            obtain ⟨i, hi, rfl, ho, hg, hb⟩ := hrel
            rename World => wc
            clear HO7
            have HO8 := Lib.hid ho
            have HG8 := Lib.hid hg
            have HB8 := Lib.hid hb
            clear ho hg hb
            by_cases hli : i < s
            · obtain ⟨A6', c6', he, -, -, h6⟩ := (show Ints wc (.slice A6 s c6) (apL A s (p + 1)) from ⟨(HO6.out.1.keptLt HG8.out hgq).cells, HO6.out.2⟩).open_
              rw [apL_len] at he h6
              simp only [Value.slice.injEq, true_and] at he
              obtain ⟨rfl, rfl⟩ := he
              obtain ⟨a6, y, rfl, hy, -, hcy⟩ := h6 i hli
              rw [apL_get A s (p + 1) hli] at hy
              injection hy with hy
              have hxg := ints_get (mxL_get A s qs (p + 1) hli)
              obtain ⟨u0, hu0, hcg, hfg, -, -, hown', hgr⟩ := HO8.out.1.storeAt (k := i) (by rw [ints_len, mxL_len A s qs (p + 1) i (by omega)]; exact hli) (.int .i64 (pz (uV s (fT A) i) qs % 10007 * (uV s (fT A) i (p + 1) % 10007) % 10007))
              rw [hxg] at hu0
              injection hu0 with hu0
              have HST := Lib.hid (show OwnInts (wc.setCell ⟨g, i, none⟩ (.int .i64 (pz (uV s (fT A) i) qs % 10007 * (uV s (fT A) i (p + 1) % 10007) % 10007))) w2.heap.size tI (.slice (some ⟨g, 0, none⟩) s cap) (mxL A s qs (p + 1) (i + 1)) from by
                rw [← mxL_step A s qs (p + 1) hli]
                refine ⟨by rw [show (ints (mxL A s qs (p + 1) i)).set i (.int .i64 (pz (uV s (fT A) i) qs % 10007 * (uV s (fT A) i (p + 1) % 10007) % 10007)) = ints ((mxL A s qs (p + 1) i).set i (pz (uV s (fT A) i) qs % 10007 * (uV s (fT A) i (p + 1) % 10007) % 10007)) by simp [ints, List.map_set]] at hown'; exact hown', fun z hz => ?_⟩
                rcases List.mem_or_eq_of_mem_set hz with hz | rfl
                · exact HO8.out.2 z hz
                · unfold In64; omega)
              have HGR := Lib.hid hgr
              have hx := mod_num' (pz (uV s (fT A) i) qs)
              have hy2 := mod_num' (uV s (fT A) i (p + 1))
              rw [hy] at hy2 HST HGR
              clear hown' hgr hxg hy h6
              generalize pz (uV s (fT A) i) qs % 10007 = x at *
              subst hu0
              obtain ⟨m, hm⟩ : ∃ m, m = x * y := ⟨_, rfl⟩
              obtain ⟨p1, p2⟩ := mul_bd 10006 10006 hx.1 hx.2 hy2.1 hy2.2
              have hw1 : wrap64 (x * y) = m := by rw [← hm]; exact w64_in' _ (by omega)
              have hw2 : IntKind.i64.wrap (x * y) = m := by rw [← hm]; exact IntWalk.i64_in _ (by omega)
              rw [← hm] at HST HGR p1 p2
              have hii : (i : Int) < (s : Int) := by omega
              clear hm hx hy2
              go_wp2_with (go_at_call 60; refine (i_num m _ (by omega) (by omega)).mono ?_; rintro e w' ⟨rfl, rfl⟩)
              go_roundw
              case rel => exact ⟨i + 1, by omega, by go_num, HST.out, sgtrans HG8.out HGR.out, HB8.out.grown HGR.out HB8.out.size (by rintro b ⟨⟩; exact hga)⟩
              case measure => simp [intOf]; omega
            · have his : i = s := by omega
              subst his
              have hii : ¬ ((i : Int) < (i : Int)) := by omega
              rw [mxL_full, ← HQT.out] at HO8
              go_wp2_with fail
              go_roundw
              case rel => exact ⟨j + 1, by omega, by go_num, HO8.out, sgtrans HG6.out HG8.out, HB8.out⟩
              case measure => simp [intOf]; omega
      · have hjl : (bs.map (idxN T6n)).take j = bs.map (idxN T6n) := List.take_of_length_le (by rw [List.length_map]; omega)
        have hii : ¬ ((j : Int) < (bs.length : Int)) := by omega
        rw [hjl, HSE.out] at HO
        clear hjl
        go_wp2_with fail
        go_ret
        have hws : w.heap.size ≤ w2.heap.size := by have := HB2.out.size; have := HSZW.out; omega
        have hbz := HBW.out.trans ((HB2.out.trans (HB.out.mono HB2.out.size)).mono HBW.out.size)
        have hoz := HO.out.mono hws
        refine ⟨.slice (some ⟨g, 0, none⟩) s cap, ?_, ?_, hbz⟩
        · rfl
        · rw [HS.out]
          exact hoz
end Go.Proofs.YtdjhfeaimmpmhaaGreat

