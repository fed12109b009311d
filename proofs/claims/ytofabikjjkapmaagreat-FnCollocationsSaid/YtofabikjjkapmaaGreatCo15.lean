/- Walks of the library's Repeat at a list of one number. | Walks: is it a tableau (the program's and the reference's test). | Walks: IsSymmetric of the program and of the reference. | Walks: dot, applied, stageWeights, weight of tableaus. | Plain: the tests of the conditions B, C and D as the program and the reference reckon them. No walk. |  | A tableau is a tableau of numbers; the empty tableau. No program in sight. | A list that grows by append while older blocks, and newer ones that were laid behind its first block, are read. No walk. -/
import Derived.Test.YtofabikjjkapmaaGreatCo14
import Derived.Deep.RegionLaw
import Derived.Deep.RegionHeld3
import Derived.Laws.CopyOwn
import Derived.Test.YtofabikjjkapmaaGreatRows
import Derived.Test.YtofabikjjkapmaaGreatCo2
import Derived.Test.YtofabikjjkapmaaGreatCo3
import Derived.Test.YtofabikjjkapmaaGreatCo1
import Derived.Test.YtofabikjjkapmaaGreatCo4
import Derived.WalkLawsBesides
import Derived.BigGuardPart
import Derived.Deep.QuietTactic
import Derived.BigQuiet
import Derived.Test.YtofabikjjkapmaaGreatCo13
set_option maxRecDepth 100000
set_option linter.unusedVariables false
set_option linter.unusedSimpArgs false
namespace Go.Proofs.YtofabikjjkapmaaGreat
open Go.RowKit

theorem Own.whole {w : World} {B : Nat} {e : TypeId} {g n : Nat} {vs : List Value} (h : Own w B e (.slice (some ⟨g, 0, none⟩) n n) vs) (hl : vs.length = n) : w.heap[g]? = some (.cells vs.toArray e (0, 0)) := by
  rcases h.cases with ⟨h, _⟩ | ⟨g', cap, cur, hv, _, _, hg, hc, _, hs, ht⟩
  · cases h
  · simp only [Value.slice.injEq, Option.some.injEq, Addr.mk.injEq, and_true, true_and] at hv
    obtain ⟨rfl, rfl, rfl⟩ := hv
    rw [hg]
    have : cur.toList = vs := by rw [← ht, hl, List.take_of_length_le (by rw [Array.length_toList, hs]; exact Nat.le_refl _)]
    rw [← this]
theorem Own.of_whole {w : World} {B : Nat} {e : TypeId} {g n : Nat} {vs : List Value} (h : w.heap[g]? = some (.cells vs.toArray e (0, 0))) (hl : vs.length = n) (hB : B ≤ g) (hn : n ≤ maxLen) : Own w B e (.slice (some ⟨g, 0, none⟩) n n) vs := by
  subst hl
  exact ⟨by simp, .inr ⟨g, _, _, rfl, hB, h, Nat.le_refl _, hn, by simp, by simp⟩⟩

set_option maxHeartbeats 1000000 in
theorem lib_Mul1 (w : World) (n : Nat) (h1 : 1 ≤ n) (h8 : n ≤ 8) :
    Calls Tryz.prog 254 #[.int .u64 1, .int .u64 (n : Int)] w fun e w' => e = .returned (.tuple #[.int .u64 0, .int .u64 (n : Int)]) ∧ w = w' := by
  have : n = 1 ∨ n = 2 ∨ n = 3 ∨ n = 4 ∨ n = 5 ∨ n = 6 ∨ n = 7 ∨ n = 8 := by omega
  rcases this with rfl | rfl | rfl | rfl | rfl | rfl | rfl | rfl
  all_goals
    go_enter Tryz.func254, Tryz.ntmps254
    go_wp2
    go_ret2
    exact ⟨rfl, rfl⟩

/-- m times g, then zeros up to n -/
def fillG (g : Int) (m n : Nat) : List Value := List.replicate m (Value.int .i64 g) ++ List.replicate (n - m) (Value.int .i64 0)
theorem fillG_len {g : Int} {m n : Nat} (h : m ≤ n) : (fillG g m n).length = n := by simp [fillG]; omega
theorem fillG_splice {g : Int} {m n c : Nat} (h : m + c ≤ n) : splice (fillG g m n) m (List.replicate c (Value.int .i64 g)) = fillG g (m + c) n := by
  unfold splice fillG
  rw [List.take_left' (by simp), List.length_replicate, List.drop_append]
  simp only [List.length_replicate, List.drop_replicate]
  rw [show m - (m + c) = 0 by omega, show m + c - m = c by omega, show n - m - c = n - (m + c) by omega]
  simp only [List.replicate_zero, List.nil_append]
  rw [← List.append_assoc, List.replicate_append_replicate]
theorem fillG_get {g : Int} {m n j : Nat} (h : j < m) : (fillG g m n)[j]? = some (Value.int .i64 g) := by
  unfold fillG
  rw [List.getElem?_append_left (by simpa using h)]
  simp [h]

theorem size_int : (Tryz.prog.info? tI).map (·.size) = some 1 := by kernel_rfl

theorem copy_src {w w1 : World} {ad : Addr} {g : Int} (hb : Below w.heap.size w w1) (hc : w.cell? (ad.add 0) = some (.int .i64 g)) : ∀ (j : Nat) (u : Value), [Value.int .i64 g][j]? = some u → w1.cell? (ad.add j) = some u := by
  intro j u hj
  cases j with
  | zero =>
    simp at hj; subst hj
    rw [hb.cell (World.block_lt_of_cell? w _ hc)]; exact hc
  | succ j => simp at hj

set_option maxHeartbeats 1000000 in
theorem lib_Repeat1 (w : World) (v : Value) (g : Int) (n : Nat) (ha : Ints w v [g]) (h1 : 1 ≤ n) (h8 : n ≤ 8) :
    Calls Tryz.prog 235 #[v, .int .i64 (n : Int)] w fun e w' => ∃ r, e = .returned r ∧ OwnInts w' w.heap.size tI r (List.replicate n g) ∧ Below w.heap.size w w' := by
  have HA := Lib.hid ha
  obtain ⟨A, c, rfl, l1, l2, l3⟩ := ha.open_
  obtain ⟨ad, z, rfl, hz, hz2, hc⟩ := l3 0 (by simp)
  obtain rfl : g = z := by simpa using hz
  have HC0 := Lib.hid hc
  clear l3 ha hz hc
  have H64 := Lib.hid hz2
  clear hz2
  go_enter Tryz.func235, Tryz.ntmps235
  go_wp2_with fail
  refine (lib_Mul1 _ n h1 h8).mono ?_
  rintro e w' ⟨rfl, rfl⟩
  go_wp2_with (first | (at_make; refine wpList_mk rfl _ _ _ rfl _ _ _ T_int n _ (by rfl) (by rfl) (by rfl) (by omega) _ ?_; intro w1 hown hb hs1; have HOWN := Lib.hid hown; have HB1 := Lib.hid hb; clear hown hb) | (refine wpList_copy_splice rfl (.tmp 31) (.tmp 32) _ _ (by rfl) tI T_int.under size_int (some ⟨w.heap.size, 0, none⟩) (some ad) n n 1 c (by rfl) (by rfl) w.heap.size 0 (fillG g 0 n) tI (by simpa [fillG] using HOWN.out.whole (by simp)) [.int .i64 g] (Nat.min_eq_left h1).symm (fun _ => ⟨rfl, ad, rfl, copy_src HB1.out HC0.out⟩) (by rw [fillG_len (by omega)]; simp; omega) (by simp [Value.oneCell']) w.heap.size w HB1.out (Nat.le_refl _) ?_; intro w2 hg2 hb2; have HB2 := Lib.hid hb2; clear hb2))
  have hg3 : Hid (w2.heap[w.heap.size]? = some (.cells (fillG g 1 n).toArray tI (0, 0))) := by
    have e : splice (fillG g 0 n) 0 [Value.int .i64 g] = fillG g 1 n := by simpa using fillG_splice (g := g) (m := 0) (c := 1) (n := n) (by omega)
    have := hg2.out
    rw [e] at this
    exact this
  clear hg2 HB1 HOWN
  go_loopw [8] (fun i wr => ∃ m : Nat, 1 ≤ m ∧ m ≤ n ∧ i = .int .i64 m ∧ Hid (wr.heap[w.heap.size]? = some (.cells (fillG g m n).toArray tI (0, 0))) ∧ Below w.heap.size w wr) (fun i _ => n - (intOf i).toNat)
  case atStart => exact ⟨1, Nat.le_refl _, h1, rfl, hg3, HB2.out⟩
  case round =>
    obtain ⟨m, hm1, hmn, rfl, hgm, hb⟩ := hrel
    clear hg3 HB2
    have HB := Lib.hid hb
    clear hb
    by_cases hlt : m < n
    · have hlt' : (m : Int) < (n : Int) := by omega
      have hne : ¬ n = m := by omega
      have hm0 : (0 : Int) ≤ (m : Int) := by omega
      have hmle : (m : Int) ≤ (n : Int) := by omega
      have hcm : m + Nat.min m (n - m) ≤ n := by
        have : Nat.min m (n - m) ≤ n - m := Nat.min_le_right _ _
        omega
      have hc1 : 1 ≤ Nat.min m (n - m) := Nat.le_min.2 ⟨hm1, by omega⟩
      have HSP := Lib.hid (fillG_splice (g := g) hcm)
      have HSRC := Lib.hid (show ∀ (j : Nat) (u : Value), (List.replicate (Nat.min m (n - m)) (Value.int .i64 g))[j]? = some u → wr.cell? ((⟨w.heap.size, 0, none⟩ : Addr).add j) = some u from fun j u hj => by
        have hj1 := (List.getElem?_eq_some_iff.1 hj).1
        simp only [List.length_replicate] at hj1
        have hjm : j < m := by have : Nat.min m (n - m) ≤ m := Nat.min_le_left _ _; omega
        have hju : u = .int .i64 g := by
          obtain ⟨_, e⟩ := List.getElem?_eq_some_iff.1 hj
          simp at e
          exact e.symm
        subst hju
        rw [Addr.add_lit, Nat.zero_add, cell_of_row wr _ j _ tI (0, 0) hgm.out]
        simpa using fillG_get hjm)
      generalize hcc : Nat.min m (n - m) = cc at hcm hc1 HSP HSRC
      have HCC := Lib.hid hcc
      clear hcc
      have wcc : IntKind.i64.wrap ((m : Int) + (cc : Int)) = (m : Int) + (cc : Int) := IntWalk.i64_in _ (by omega)
      go_wp2_with fail
      go_region_held3 (fun _ => True) (exact trivial) ((refine step_copy_splice rfl (.tmp 41) (.tmp 44) 27 27 (by rfl) tI T_int.under size_int (some ⟨w.heap.size, m, none⟩) (some ⟨w.heap.size, 0, none⟩) (n - m) (n - m) m n (by rfl) (by rfl) w.heap.size m (fillG g m n) tI hgm.out (List.replicate cc (.int .i64 g)) (by rw [List.length_replicate]; exact HCC.out.symm) (fun _ => ⟨rfl, _, rfl, HSRC.out⟩) (by rw [List.length_replicate, fillG_len hmn]; exact hcm) (by intro v hv; obtain ⟨_, rfl⟩ := List.mem_replicate.1 hv; rfl) w.heap.size w HB.out.drew (Nat.le_refl _) ?_; intro w4 hg4 hb4))
      have HG4 : Hid (w4.heap[w.heap.size]? = some (.cells (fillG g (m + cc) n).toArray tI (0, 0))) := by
        have := hg4.out
        rw [HSP.out] at this
        exact this
      have HB4 := Lib.hid hb4
      clear hg4 hb4
      go_wp2_with fail
      go_roundw
      case rel => exact ⟨m + cc, by omega, hcm, by go_num, HG4, HB4.out⟩
      case measure => simp [intOf]; omega
    · have : m = n := by omega
      subst this
      go_wp2_with fail
      go_ret
      have e : fillG g m m = ints (List.replicate m g) := by simp [fillG, ints]
      have hh := hgm.out
      rw [e] at hh
      refine ⟨_, rfl, ⟨Own.of_whole hh (by simp [ints]) (Nat.le_refl _) (by simp only [maxLen]; omega), fun z hz => ?_⟩, HB.out⟩
      obtain ⟨_, rfl⟩ := List.mem_replicate.1 hz
      exact H64.out
end Go.Proofs.YtofabikjjkapmaaGreat

set_option linter.unusedVariables false
set_option linter.unusedSimpArgs false
namespace Go.Proofs.YtofabikjjkapmaaGreat
open Go.RowKit

def rowB (n : Nat) (row : List Int) : Bool := decide (row.length = n) && nums row
def tabB (A : List (List Int)) (Bs : List Int) : Bool := inR Bs.length 1 8 && decide (A.length = Bs.length) && nums Bs && A.all (rowB Bs.length)

set_option maxHeartbeats 400000 in
theorem lib_IndexFuncR (w : World) (v : Value) (xss : List (List Int)) (g : Nat) (c0 : Value) (p : List Int → Bool) (ha : Rows w v xss)
    (hcf : ∀ (args : Array Value) (w : World), Sem.run Tryz.prog (callFunc g args) w = .ok (.enter g args) w)
    (hp : ∀ (u : Value) (zs : List Int), Ints w u zs → Calls Tryz.prog g #[u, c0] w fun e w' => e = .returned (.bool (p zs)) ∧ w = w') :
    Calls Tryz.prog 192 #[v, .func (.func g) #[] #[c0]] w fun e w' => e = .returned (.int .i64 (idxF p xss)) ∧ w = w' := by
  obtain ⟨A, c, rfl, h1, h2, h3⟩ := ha.open_
  clear ha
  have H3 := Lib.hid h3
  have HP := Lib.hid hp
  clear h3 hp
  go_enter Tryz.func192, Tryz.ntmps192
  go_wp2_with fail
  go_loop [8] (fun i => ∃ k : Nat, k ≤ xss.length ∧ i = .int .i64 k ∧ Hid (∀ i y, i < k → xss[i]? = some y → p y = false)) (fun i => xss.length - (intOf i).toNat)
  case atStart => exact ⟨0, Nat.zero_le _, rfl, fun i y h => by omega⟩
  case round =>
    obtain ⟨k, hk, rfl, hI⟩ := hrel
    by_cases hlt : k < xss.length
    · obtain ⟨ad, u, zs, rfl, hz, hu, hc⟩ := H3.out k hlt
      have HZ := Lib.hid hz
      have HU := Lib.hid hu
      clear hz hu
      go_wp2_with fail
      refine (HP.out u zs HU.out).mono ?_
      rintro e w' ⟨rfl, rfl⟩
      go_wp2_with fail
      · have hpz : p zs = true := by assumption
        go_ret
        exact ⟨ret_int (idxF_hit hI.out HZ.out hpz).symm, rfl⟩
      · have hpz : p zs = false := by assumption
        go_round
        case rel =>
          refine ⟨k + 1, by omega, by go_num, fun i y hi hy => ?_⟩
          by_cases e : i = k
          · subst e
            rw [HZ.out] at hy
            cases hy
            exact hpz
          · exact hI.out i y (by omega) hy
        case measure => simp [intOf]; omega
    · have : k = xss.length := by omega
      subst this
      go_wp2_with fail
      go_ret
      exact ⟨ret_int (idxF_miss hI.out).symm, rfl⟩

set_option maxHeartbeats 400000 in
theorem lib_ContainsFuncR (w : World) (v : Value) (xss : List (List Int)) (g : Nat) (c0 : Value) (p : List Int → Bool) (ha : Rows w v xss)
    (hcf : ∀ (args : Array Value) (w : World), Sem.run Tryz.prog (callFunc g args) w = .ok (.enter g args) w)
    (hp : ∀ (u : Value) (zs : List Int), Ints w u zs → Calls Tryz.prog g #[u, c0] w fun e w' => e = .returned (.bool (p zs)) ∧ w = w') :
    Calls Tryz.prog 137 #[v, .func (.func g) #[] #[c0]] w fun e w' => e = .returned (.bool (xss.any p)) ∧ w = w' := by
  have HA := Lib.hid ha
  have HP := Lib.hid hp
  clear ha hp
  go_enter Tryz.func137, Tryz.ntmps137
  go_wp2_with (go_at_call 192; refine (lib_IndexFuncR _ _ _ _ _ _ HA.out hcf HP.out).mono ?_; rintro e w' ⟨rfl, rfl⟩)
  go_ret
  exact ⟨ret_bool (idxF_nonneg p xss), rfl⟩

set_option maxHeartbeats 400000 in
theorem i_IsTableau1 (w : World) (v : Value) (zs : List Int) (a : Addr) (n : Nat) (ha : Ints w v zs) (hc : w.cell? a = some (.int .i64 (n : Int))) :
    Calls Tryz.prog 138 #[v, .pointer (some a)] w fun e w' => e = .returned (.bool (!rowB n zs)) ∧ w = w' := by
  have HA := Lib.hid ha
  obtain ⟨A, c, rfl, h1, h2, h3⟩ := ha.open_
  clear ha h3
  by_cases hl : zs.length = n
  · have HF := Lib.hid (show (!rowB n zs) = !nums zs by simp [rowB, hl])
    have hd : (((zs.length : Nat) : Int) != (n : Int)) = false := by simp [hl]
    clear hl
    go_enter Tryz.func138, Tryz.ntmps138
    go_wp2_with (go_at_call 90; refine (i_areNumbers _ _ _ HA.out).mono ?_; rintro e w' ⟨rfl, rfl⟩)
    go_ret
    exact ⟨ret_bool HF.out.symm, rfl⟩
  · have HF := Lib.hid (show (!rowB n zs) = true by simp [rowB, hl])
    have hd : (((zs.length : Nat) : Int) != (n : Int)) = true := by simp; omega
    clear hl
    go_enter Tryz.func138, Tryz.ntmps138
    go_wp2_with (go_at_call 90; refine (i_areNumbers _ _ _ HA.out).mono ?_; rintro e w' ⟨rfl, rfl⟩)
    go_ret
    exact ⟨ret_bool HF.out.symm, rfl⟩

theorem any_not_all {α : Type} (p : α → Bool) (l : List α) : (l.any fun x => !p x) = !l.all p := by
  induction l with
  | nil => rfl
  | cons x l ih => simp only [List.any_cons, List.all_cons, ih]; cases p x <;> simp

set_option maxHeartbeats 1000000 in
theorem i_IsTableau (w : World) (v : Value) (A : List (List Int)) (Bs : List Int) (ha : TabArg w v A Bs) :
    Calls Tryz.prog 73 #[v] w fun e w' => e = .returned (.bool (tabB A Bs)) ∧ Below w.heap.size w w' := by
  obtain ⟨va, vb, rfl, ha1, ha2⟩ := ha
  have BB := Lib.hid (below2 w (.cells #[va, vb] 37) (.cells #[.int .i64 (Bs.length : Int)] 3))
  have H1 := Lib.hid (ha1.below BB.out)
  have H2 := Lib.hid (ha2.below BB.out)
  obtain ⟨A1, c1, rfl, g1, g2, _⟩ := ha1.open_
  obtain ⟨A2, c2, rfl, k1, k2, _⟩ := ha2.open_
  clear ha1 ha2
  cases hr : inR Bs.length 1 8 with
  | false =>
    have HF := Lib.hid (show tabB A Bs = false by simp [tabB, hr])
    go_enter Tryz.func73, Tryz.ntmps73
    go_wp2_with (first | (go_at_call 59; refine (lib_lengthI _ _ _ H2.out).mono ?_; rintro e w' ⟨rfl, rfl⟩) | (go_at_call 128; refine (i_inRange _ _ _ _).mono ?_; rintro e w' ⟨rfl, rfl⟩))
    go_ret
    exact ⟨ret_bool HF.out.symm, BB.out⟩
  | true =>
    by_cases hl : A.length = Bs.length
    · have hd : (((A.length : Nat) : Int) != (Bs.length : Int)) = false := by simp [hl]
      cases hn : nums Bs with
      | false =>
        have HF := Lib.hid (show tabB A Bs = false by simp [tabB, hn])
        clear hl
        go_enter Tryz.func73, Tryz.ntmps73
        go_wp2_with (first | (go_at_call 59; refine (lib_lengthI _ _ _ H2.out).mono ?_; rintro e w' ⟨rfl, rfl⟩) | (go_at_call 128; refine (i_inRange _ _ _ _).mono ?_; rintro e w' ⟨rfl, rfl⟩) | (go_at_call 90; refine (i_areNumbers _ _ _ H2.out).mono ?_; rintro e w' ⟨rfl, rfl⟩))
        go_ret
        exact ⟨ret_bool HF.out.symm, BB.out⟩
      | true =>
        have HF := Lib.hid (show tabB A Bs = A.all (rowB Bs.length) by simp [tabB, hr, hl, hn])
        clear hl
        go_enter Tryz.func73, Tryz.ntmps73
        go_wp2_with (first | (go_at_call 59; refine (lib_lengthI _ _ _ H2.out).mono ?_; rintro e w' ⟨rfl, rfl⟩) | (go_at_call 128; refine (i_inRange _ _ _ _).mono ?_; rintro e w' ⟨rfl, rfl⟩) | (go_at_call 90; refine (i_areNumbers _ _ _ H2.out).mono ?_; rintro e w' ⟨rfl, rfl⟩))
        refine (lib_ContainsFuncR _ _ _ _ _ (fun row => !rowB Bs.length row) H1.out (fun _ _ => by kernel_rfl) (fun u zs hu => i_IsTableau1 _ _ _ _ _ hu (by simp))).mono ?_
        rintro e w' ⟨rfl, rfl⟩
        go_wp2_with fail
        go_ret
        exact ⟨ret_bool (by rw [HF.out, any_not_all, Bool.not_not]), BB.out⟩
    · have hd : (((A.length : Nat) : Int) != (Bs.length : Int)) = true := by simp; omega
      have HF := Lib.hid (show tabB A Bs = false by simp [tabB, hl])
      clear hl
      go_enter Tryz.func73, Tryz.ntmps73
      go_wp2_with (first | (go_at_call 59; refine (lib_lengthI _ _ _ H2.out).mono ?_; rintro e w' ⟨rfl, rfl⟩) | (go_at_call 128; refine (i_inRange _ _ _ _).mono ?_; rintro e w' ⟨rfl, rfl⟩))
      go_ret
      exact ⟨ret_bool HF.out.symm, BB.out⟩

end Go.Proofs.YtofabikjjkapmaaGreat

set_option linter.unusedVariables false
set_option linter.unusedSimpArgs false
namespace Go.Proofs.YtofabikjjkapmaaGreat
open Go.RowKit

/-- what the test for a tableau says -/
structure IsTab (A : List (List Int)) (Bs : List Int) : Prop where
  lo : 1 ≤ Bs.length
  hi : Bs.length ≤ 8
  len : A.length = Bs.length
  row : ∀ zs ∈ A, zs.length = Bs.length ∧ nums zs = true
  num : nums Bs = true
theorem isTab_of {A : List (List Int)} {Bs : List Int} (h : tabB A Bs = true) : IsTab A Bs := by
  simp only [tabB, Bool.and_eq_true, decide_eq_true_eq, List.all_eq_true, inR_iff] at h
  obtain ⟨⟨⟨h1, h2⟩, h3⟩, h4⟩ := h
  refine ⟨by omega, by omega, h2, fun zs hz => ?_, h3⟩
  have := h4 zs hz
  simpa [rowB] using this

def tabC (A : List (List Int)) (Bs : List Int) : Int := if tabB A Bs then 0 else 1

set_option maxHeartbeats 400000 in
theorem im_stages (w : World) (v : Value) (A : List (List Int)) (Bs : List Int) (ha : TabArg w v A Bs) :
    Calls Tryz.prog 86 #[v] w fun e w' => e = .returned (.int .i64 Bs.length) ∧ Below w.heap.size w w' := by
  obtain ⟨va, vb, rfl, ha1, ha2⟩ := ha
  have BB := Lib.hid (below1 w (.cells #[va, vb] 37))
  obtain ⟨A2, c2, rfl, k1, k2, _⟩ := ha2.open_
  clear ha1 ha2
  go_enter Tryz.func86, Tryz.ntmps86
  go_wp2
  go_ret
  exact ⟨rfl, BB.out⟩

end Go.Proofs.YtofabikjjkapmaaGreat

set_option maxRecDepth 100000
set_option linter.unusedVariables false
set_option linter.unusedSimpArgs false
namespace Go.Proofs.YtofabikjjkapmaaGreat
open Go.RowKit

theorem sR_bd {s : Nat} {f : Nat → Int} {M : Int} (h : ∀ i, i < s → 0 ≤ f i ∧ f i ≤ M) : 0 ≤ sR s f ∧ sR s f ≤ (s : Int) * M := by
  induction s with
  | zero => rw [sR_zero]; simp
  | succ s ih =>
    have h1 := ih fun i hi => h i (by omega)
    have h2 := h s (by omega)
    rw [sR_succ, show ((s + 1 : Nat) : Int) * M = (s : Int) * M + M by rw [Int.natCast_add, Int.add_mul]; simp]
    omega
def dtF (a b : List Int) (k : Nat) : Int := a.getD k 0 * b.getD k 0
def dtZ (a b : List Int) : Int := sR a.length (dtF a b) % 10007
theorem SqT.of {A : List (List Int)} {B : List Int} (h : IsTab A B) : SqT A B B.length := ⟨h.len, rfl, fun r hr => ⟨nums_iff.1 (h.row r hr).2, (h.row r hr).1⟩, nums_iff.1 h.num⟩
theorem getD_bd {a : List Int} (h : Nums a) (k : Nat) : 0 ≤ a.getD k 0 ∧ a.getD k 0 ≤ 10006 := by
  rw [List.getD_eq_getElem?_getD]
  cases hk : a[k]? with
  | none => simp
  | some z => exact h z (List.mem_of_getElem? hk)
set_option maxHeartbeats 4000000 in
theorem i_dot (w : World) (va vb : Value) (a b : List Int) (h1 : Ints w va a) (h2 : Ints w vb b) (n1 : Nums a) (n2 : Nums b) (hl : a.length ≤ b.length) (hn : a.length ≤ 1000) :
    Calls Tryz.prog 194 #[va, vb] w fun e w' => e = .returned (.int .i64 (dtZ a b)) ∧ w = w' := by
  obtain ⟨A, c, rfl, -, -, h3⟩ := h1.open_
  obtain ⟨A', c', rfl, -, -, g3⟩ := h2.open_
  have H3 := Lib.hid h3
  have G3 := Lib.hid g3
  have HBD := Lib.hid (show ∀ k, k ≤ a.length → 0 ≤ sR k (dtF a b) ∧ sR k (dtF a b) ≤ 1000 * 100120036 from fun k hk => by
    have h := sR_bd (s := k) (f := dtF a b) (M := 100120036) (fun i _ => by
      have x := getD_bd n1 i
      have y := getD_bd n2 i
      obtain ⟨p1, p2⟩ := mul_bd 10006 10006 x.1 x.2 y.1 y.2
      unfold dtF
      omega)
    omega)
  have HN := Lib.hid (show ∀ k, 0 ≤ dtF a b k ∧ dtF a b k ≤ 100120036 from fun k => by
    have x := getD_bd n1 k
    have y := getD_bd n2 k
    obtain ⟨p1, p2⟩ := mul_bd 10006 10006 x.1 x.2 y.1 y.2
    unfold dtF
    omega)
  have HZ := Lib.hid (show dtZ a b = sR a.length (dtF a b) % 10007 from rfl)
  clear h1 h2 h3 g3 n1 n2
  generalize dtZ a b = dz at HZ ⊢
  go_enter Tryz.func194, Tryz.ntmps194
  go_wp2_with fail
  go_loopw [5, 10] (fun s x wr => ∃ k : Nat, k ≤ a.length ∧ x = .int .i64 k ∧ s = .int .i64 (sR k (dtF a b)) ∧ wr = w) (fun _ x _ => a.length - (intOf x).toNat)
  case atStart => exact ⟨0, Nat.zero_le _, rfl, by rw [sR_zero], rfl⟩
  case round =>
    obtain ⟨k, hk, rfl, rfl, rfl⟩ := hrel
    have hsb := HBD.out k hk
    by_cases hlt : k < a.length
    · obtain ⟨ad, x, rfl, hx, -, hcx⟩ := H3.out k hlt
      obtain ⟨ad', y, rfl, hy, -, hcy⟩ := G3.out k (by omega)
      have hxy := HN.out k
      have e : dtF a b k = x * y := by unfold dtF; rw [List.getD_eq_getElem?_getD, List.getD_eq_getElem?_getD, hx, hy]; rfl
      have HS := Lib.hid (show sR (k + 1) (dtF a b) = sR k (dtF a b) + x * y from by rw [sR_succ, e])
      rw [e] at hxy
      generalize sR k (dtF a b) = sm at *
      obtain ⟨m, hm⟩ : ∃ m, m = x * y := ⟨_, rfl⟩
      rw [← hm] at hxy HS
      have hw1 : wrap64 (x * y) = m := by rw [← hm]; exact w64_in' _ (by omega)
      have hw2 : IntKind.i64.wrap (x * y) = m := by rw [← hm]; exact IntWalk.i64_in _ (by omega)
      have hw3 : wrap64 (sm + m) = sm + m := w64_in' _ (by omega)
      have hw4 : IntKind.i64.wrap (sm + m) = sm + m := IntWalk.i64_in _ (by omega)
      have hkk : (k : Int) < (a.length : Int) := by omega
      have hkb : (k : Int) < (b.length : Int) := by omega
      have hkb' : k < b.length := by omega
      clear hm hx hy e hsb hxy
      go_wp2_with fail
      go_roundw
      case rel => exact ⟨k + 1, by omega, by go_num, by rw [HS.out], by first | rfl | trivial⟩
      case measure => simp [intOf]; omega
    · have hkl : k = a.length := by omega
      subst hkl
      generalize sR a.length (dtF a b) = sm at *
      go_wp2_with (go_at_call 56; refine (i_num sm _ (by omega) (by omega)).mono ?_; rintro e w' ⟨rfl, rfl⟩)
      go_ret
      exact ⟨ret_i64 HZ.out.symm, rfl⟩
/-- the matrix times a list -/
def mulR (A : List (List Int)) (v : List Int) : List Int := A.map fun r => dtZ r v
theorem mulR_get {A : List (List Int)} {v r : List Int} {i : Nat} (h : A[i]? = some r) : (mulR A v)[i]? = some (dtZ r v) := by unfold mulR; rw [List.getElem?_map, h]; rfl
theorem dtZ_num (a b : List Int) : 0 ≤ dtZ a b ∧ dtZ a b ≤ 10006 := by unfold dtZ; omega
theorem mulR_nums (A : List (List Int)) (v : List Int) : Nums (mulR A v) := by
  intro z hz
  obtain ⟨r, -, rfl⟩ := List.mem_map.1 hz
  exact dtZ_num r v
theorem mulR_len (A : List (List Int)) (v : List Int) : (mulR A v).length = A.length := by simp [mulR]
set_option maxHeartbeats 8000000 in
theorem im_applied (w : World) (v vb : Value) (A : List (List Int)) (Bs b : List Int) (ha : TabArg w v A Bs) (h2 : Ints w vb b) (hA : ∀ r ∈ A, Nums r ∧ r.length ≤ b.length) (n2 : Nums b) (hn : A.length ≤ 1000) (hb : b.length ≤ 1000) :
    Calls Tryz.prog 236 #[v, vb] w fun e w' => ∃ x, e = .returned x ∧ OwnInts w' w.heap.size tI x (mulR A b) ∧ Below w.heap.size w w' := by
  obtain ⟨va, vb2, rfl, ha1, ha2⟩ := ha
  have BB := Lib.hid (below1 w (.cells #[va, vb2] 37))
  have HR := Lib.hid (ha1.below BB.out)
  have HV := Lib.hid (h2.below BB.out)
  obtain ⟨A1, c1, rfl, -, -, -⟩ := ha1.open_
  obtain ⟨A2, c2, rfl, -, -, -⟩ := ha2.open_
  obtain ⟨A3, c3, rfl, -, -, -⟩ := h2.open_
  have HA := Lib.hid hA
  have HN := Lib.hid n2
  obtain ⟨W, hW⟩ : ∃ W, W = w.alloc (.cells #[.slice A1 A.length c1, .slice A2 Bs.length c2] 37) := ⟨_, rfl⟩
  have HK := Lib.hid (show Blk W w.heap.size 37 #[.slice A1 A.length c1, .slice A2 Bs.length c2] from by rw [hW]; exact Blk.new _ _ _)
  rw [← hW] at BB HR HV
  have OL := Lib.hid (show Own (W.alloc (.cells #[] tI)) W.heap.size tI (.slice (some ⟨W.heap.size, 0, none⟩) 0 0) (ints []) from own_lit W tI [] (by simp [maxLen]))
  have k0 : ∀ o, (W.alloc o).cell? ⟨w.heap.size, 0, none⟩ = some (.slice A1 A.length c1) := fun o => (HK.out.alloc o).cell 0
  clear ha1 ha2 h2 hA n2
  go_enter Tryz.func236, Tryz.ntmps236
  go_upto_region 1 with fail
  rw [← hW]
  clear hW
  go_wp2_with fail
  clear k0
  go_loopw [5, 12] (fun o x wr => ∃ i : Nat, i ≤ A.length ∧ x = .int .i64 i ∧ Own wr W.heap.size tI o (ints ((mulR A b).take i)) ∧ Below W.heap.size W wr) (fun _ x _ => A.length - (intOf x).toNat)
  case atStart => exact ⟨0, Nat.zero_le _, rfl, OL.out, below1 W _⟩
  case round =>
    obtain ⟨i, hi, rfl, ho, hb⟩ := hrel
    rename World => wq
    clear OL
    have hel : ((mulR A b).take i).length = i := by rw [List.length_take, mulR_len]; omega
    have hol := ho.cells.open_
    rw [ints_len, hel] at hol
    obtain ⟨Ao, co, rfl, -, -⟩ := hol
    have HEL := Lib.hid hel
    have HO := Lib.hid ho
    have HBQ := Lib.hid hb
    clear ho hb hel
    by_cases hlt : i < A.length
    · obtain ⟨A1', c1', he, -, -, h3⟩ := (HR.out.below HBQ.out).open_
      simp only [Value.slice.injEq, true_and] at he
      obtain ⟨rfl, rfl⟩ := he
      obtain ⟨ad, u, r, rfl, hr, hu, hc⟩ := h3 i hlt
      obtain ⟨hrn, hrl⟩ := HA.out r (List.mem_of_getElem? hr)
      have HD := Lib.hid (i_dot wq u _ r b hu (HV.out.below HBQ.out) hrn HN.out hrl (by omega))
      have HTS := Lib.hid (show ints ((mulR A b).take (i + 1)) = ints ((mulR A b).take i) ++ [.int .i64 (dtZ r b)] from by rw [List.take_add_one, mulR_get hr, ints, ints, List.map_append]; rfl)
      have hii : (i : Int) < (A.length : Int) := by omega
      generalize dtZ r b = dd at HD HTS
      clear h3 hr hu hrn hrl
      go_wp2_with (first
        | (go_at_call 194; refine HD.out.mono ?_; rintro e w5 ⟨rfl, rfl⟩)
        | (at_builtin; go_loud (refine wpList_app1 T_int HO.out (by rw [ints_len, HEL.out]; omega) HBQ.out.size (by rfl) rfl (by rfl) (by rfl) (by rfl) ?_; intro v1 w6 hown1 hgr1; have HNN := Lib.hid hown1; have HGR := Lib.hid hgr1; clear hown1 hgr1)))
      go_roundw
      case rel => exact ⟨i + 1, by omega, by go_num, by rw [HTS.out]; exact HNN.out, HGR.out.below HBQ.out HBQ.out.size HO.out.ge⟩
      case measure => simp [intOf]; omega
    · have hil : (mulR A b).take i = mulR A b := List.take_of_length_le (by rw [mulR_len]; omega)
      have hii : ¬ ((i : Int) < (A.length : Int)) := by omega
      rw [hil] at HO
      go_wp2_with fail
      go_ret
      exact ⟨_, rfl, ⟨HO.out.mono BB.out.size, fun z hz => in64_num (mulR_nums A b z hz)⟩, BB.out.trans (HBQ.out.mono BB.out.size)⟩
/-- the matrix times the stage weights -/
theorem mulR_st {A : List (List Int)} {B : List Int} {s p : Nat} (h : SqT A B s) (h0 : 0 < p) : mulR A (stL A s p) = apL A s p := by
  refine List.ext_getElem? fun i => ?_
  by_cases hi : i < s
  · have hr : A[i]? = some (A[i]'(by rw [h.la]; exact hi)) := List.getElem?_eq_getElem _
    rw [mulR_get hr, apL_get A s p hi, ← row_ap A s i h0]
    unfold dtZ
    have hl : (A[i]'(by rw [h.la]; exact hi)).length = s := (h.rows _ (List.getElem_mem _)).2
    rw [hl]
    congr 1
    have : sR s (dtF (A[i]'(by rw [h.la]; exact hi)) (stL A s p)) = sR s (fun k => fT A i k * (stL A s p).getD k 0) := sR_congr fun k hk => by
      unfold dtF fT
      rw [List.getD_eq_getElem?_getD (l := A), hr]
      rfl
    rw [this]
  · rw [List.getElem?_eq_none (by rw [mulR_len, h.la]; omega), List.getElem?_eq_none (by unfold apL; simp; omega)]
theorem stL_len (A : List (List Int)) (s p : Nat) : (stL A s p).length = s := by simp [stL]
theorem stB_len (A : List (List Int)) (s : Nat) (qs : List Nat) : (stB A s qs).length = s := by simp [stB]
theorem apL_len (A : List (List Int)) (s p : Nat) : (apL A s p).length = s := by simp [apL]
theorem stL_nums (A : List (List Int)) (s p : Nat) : Nums (stL A s p) := by
  intro z hz
  obtain ⟨i, -, rfl⟩ := List.mem_map.1 hz
  show 0 ≤ wt s (fT A) zeroV i p % 10007 ∧ wt s (fT A) zeroV i p % 10007 ≤ 10006
  omega
/-- the stage weights while a branch is multiplied in: the first i stages have it -/
def mxL (A : List (List Int)) (s : Nat) (qs : List Nat) (q i : Nat) : List Int := (stB A s (qs ++ [q])).take i ++ (stB A s qs).drop i
theorem mxL_len (A : List (List Int)) (s : Nat) (qs : List Nat) (q i : Nat) (hi : i ≤ s) : (mxL A s qs q i).length = s := by
  unfold mxL
  rw [List.length_append, List.length_take, List.length_drop, stB_len, stB_len]
  omega
theorem mxL_get (A : List (List Int)) (s : Nat) (qs : List Nat) (q : Nat) {i : Nat} (hi : i < s) : (mxL A s qs q i)[i]? = some (pz (uV s (fT A) i) qs % 10007) := by
  unfold mxL
  rw [List.getElem?_append_right (by rw [List.length_take]; omega), List.length_take, stB_len, Nat.min_eq_left (by omega), Nat.sub_self, List.getElem?_drop, Nat.add_zero]
  exact stB_get A s qs hi
theorem mxL_step (A : List (List Int)) (s : Nat) (qs : List Nat) (q : Nat) {i : Nat} (hi : i < s) : (mxL A s qs q i).set i (pz (uV s (fT A) i) qs % 10007 * (uV s (fT A) i q % 10007) % 10007) = mxL A s qs q (i + 1) := by
  rw [stB_step]
  refine List.ext_getElem? fun k => ?_
  have hl := mxL_len A s qs q i (by omega)
  rw [List.getElem?_set]
  unfold mxL at hl ⊢
  by_cases hki : i = k
  · subst hki
    rw [if_pos rfl, if_pos (by rw [hl]; exact hi), List.getElem?_append_left (by rw [List.length_take, stB_len]; omega), List.getElem?_take_of_lt (by omega), stB_get A s _ hi]
  · rw [if_neg hki]
    by_cases hlt : k < i
    · rw [List.getElem?_append_left (by rw [List.length_take, stB_len]; omega), List.getElem?_append_left (by rw [List.length_take, stB_len]; omega), List.getElem?_take_of_lt hlt, List.getElem?_take_of_lt (by omega)]
    · rw [List.getElem?_append_right (by rw [List.length_take, stB_len]; omega), List.getElem?_append_right (by rw [List.length_take, stB_len]; omega), List.length_take, List.length_take, stB_len, List.getElem?_drop, List.getElem?_drop]
      congr 1
      omega
theorem mxL_zero (A : List (List Int)) (s : Nat) (qs : List Nat) (q : Nat) : mxL A s qs q 0 = stB A s qs := by simp [mxL]
theorem mxL_full (A : List (List Int)) (s : Nat) (qs : List Nat) (q : Nat) : mxL A s qs q s = stB A s (qs ++ [q]) := by
  unfold mxL
  rw [List.take_of_length_le (by rw [stB_len]; omega), List.drop_eq_nil_of_le (by rw [stB_len]; omega), List.append_nil]
end Go.Proofs.YtofabikjjkapmaaGreat

set_option maxRecDepth 100000
set_option linter.unusedVariables false
set_option linter.unusedSimpArgs false
namespace Go.Proofs.YtofabikjjkapmaaGreat
open Go.RowKit

def cN (A : List (List Int)) (i : Nat) : Int := (nodesOf A).getD i 0
theorem sR_getD : ∀ r : List Int, sR r.length (fun k => r.getD k 0) = sumF id r
  | [] => rfl
  | x :: r => by
    rw [List.length_cons, sR_first]
    have h := sR_getD r
    show x + sR r.length (fun k => r.getD k 0) = id x + sumF id r
    rw [h]; rfl
theorem cN_bd (A : List (List Int)) (i : Nat) : 0 ≤ cN A i ∧ cN A i ≤ 10006 := getD_bd (nodesOf_nums A) i
theorem cN_is {A : List (List Int)} {B : List Int} {s i : Nat} (h : SqT A B s) (hi : i < s) : sR s (fun k => fT A i k) % 10007 = cN A i % 10007 := by
  have e : cN A i = nodeOf (A.getD i []) := getD_mapT nodeOf (by rw [h.la]; exact hi) [] 0
  have g := sR_getD (A.getD i [])
  rw [(h.row hi).2] at g
  rw [e]
  unfold nodeOf fT
  rw [g, Int.emod_emod_of_dvd _ (Int.dvd_refl _)]
theorem pw_at (c : Int) (e : Nat) (b : Int) : b * pw c e % 10007 % 10007 = b * c ^ e % 10007 := by
  unfold pw
  rw [Int.emod_emod_of_dvd _ (Int.dvd_refl _)]
  exact mulm rfl (Int.emod_emod_of_dvd _ (Int.dvd_refl _))
theorem dec_congr {p q : Prop} [Decidable p] [Decidable q] (h : p ↔ q) : decide p = decide q := by
  by_cases hp : p
  · rw [decide_eq_true hp, decide_eq_true (h.1 hp)]
  · rw [decide_eq_false hp, decide_eq_false (fun hq => hp (h.2 hq))]
/-! ### B -/
def wE (A : List (List Int)) (B : List Int) (k i : Nat) : Int := fB B i * pw (cN A i) (k - 1) % 10007
def asB (A : List (List Int)) (B : List Int) (k : Nat) : Bool := decide (sR B.length (wE A B k) * (k : Int) % 10007 = 1)
theorem wE_bd (A : List (List Int)) (B : List Int) (k i : Nat) : 0 ≤ wE A B k i ∧ wE A B k i ≤ 10006 := by unfold wE; omega
theorem asB_is (A : List (List Int)) (B : List Int) (k : Nat) : asB A B k = mB B.length (fB B) (cN A) k := by
  unfold asB mB
  refine dec_congr ?_
  have e : sR B.length (wE A B k) % 10007 = sR B.length (fun i => fB B i * cN A i ^ (k - 1)) % 10007 := sR_mod fun i hi => pw_at _ _ _
  rw [Int.mul_comm, mulm (a := (k : Int)) (c := (k : Int)) rfl e]
/-! ### C -/
def pwL (A : List (List Int)) (e : Nat) : List Int := (nodesOf A).map fun c => pw c e
theorem pwL_len (A : List (List Int)) (e : Nat) : (pwL A e).length = A.length := by unfold pwL; rw [List.length_map, nodesOf_len]
theorem pwL_nums (A : List (List Int)) (e : Nat) : Nums (pwL A e) := by
  intro z hz
  obtain ⟨c, -, rfl⟩ := List.mem_map.1 hz
  exact pw_bd c e
theorem pwL_get {A : List (List Int)} {i : Nat} (hi : i < A.length) (e : Nat) : (pwL A e).getD i 0 = pw (cN A i) e := getD_mapT (fun c => pw c e) (by rw [nodesOf_len]; exact hi) 0 0
def asC (A : List (List Int)) (k i : Nat) : Bool := decide (dtZ (A.getD i []) (pwL A (k - 1)) * (k : Int) % 10007 = pw (cN A i) k)
theorem asC_is {A : List (List Int)} {B : List Int} {s i : Nat} (h : SqT A B s) (hi : i < s) (k : Nat) : asC A k i = decide (((k : Int) * sR s (fun j => fT A i j * cN A j ^ (k - 1))) % 10007 = cN A i ^ k % 10007) := by
  unfold asC
  refine dec_congr ?_
  have e : dtZ (A.getD i []) (pwL A (k - 1)) % 10007 = sR s (fun j => fT A i j * cN A j ^ (k - 1)) % 10007 := by
    unfold dtZ
    rw [Int.emod_emod_of_dvd _ (Int.dvd_refl _), (h.row hi).2]
    refine sR_mod fun j hj => ?_
    unfold dtF
    rw [pwL_get (by rw [h.la]; exact hj)]
    unfold pw
    exact mulm rfl (Int.emod_emod_of_dvd _ (Int.dvd_refl _))
  rw [Int.mul_comm, mulm (a := (k : Int)) (c := (k : Int)) rfl e]
  rfl
def asCs (A : List (List Int)) (s k : Nat) : Bool := (List.range s).all fun i => asC A k i
theorem all_congr {s : Nat} {f g : Nat → Bool} (h : ∀ i, i < s → f i = g i) : (List.range s).all f = (List.range s).all g := by
  rw [Bool.eq_iff_iff, List.all_eq_true, List.all_eq_true]
  exact ⟨fun a x hx => by rw [← h x (List.mem_range.1 hx)]; exact a x hx, fun a x hx => by rw [h x (List.mem_range.1 hx)]; exact a x hx⟩
theorem asCs_is {A : List (List Int)} {B : List Int} {s : Nat} (h : SqT A B s) (k : Nat) : asCs A s k = mC s (fT A) (cN A) k := all_congr fun i hi => asC_is h hi k
/-! ### D -/
def dE (A : List (List Int)) (B : List Int) (k j i : Nat) : Int := wE A B k i * fT A i j % 10007
theorem dE_bd (A : List (List Int)) (B : List Int) (k j i : Nat) : 0 ≤ dE A B k j i ∧ dE A B k j i ≤ 10006 := by unfold dE; omega
def asD (A : List (List Int)) (B : List Int) (k j : Nat) : Bool := decide (sR B.length (dE A B k j) * (k : Int) % 10007 = fB B j * ((1 - pw (cN A j) k) % 10007) % 10007)
def asDs (A : List (List Int)) (B : List Int) (k : Nat) : Bool := (List.range B.length).all fun j => asD A B k j
/-! ### all three -/
/-- the test of a kind -/
def asM (A : List (List Int)) (B : List Int) (kind : Int) (k : Nat) : Bool := if kind = 0 then asB A B k else if kind = 1 then asCs A B.length k else asDs A B k
/-- up to which number it holds -/
def oM (A : List (List Int)) (B : List Int) (kind : Int) : Nat := cndO (asM A B kind)
theorem oM_hit {A : List (List Int)} {B : List Int} {kind : Int} {k : Nat} (h1 : 1 ≤ k) (h : ∀ j, 0 < j → j < k → asM A B kind j = true) (hk : k ≤ 16) (hf : asM A B kind k = false) : oM A B kind = k - 1 :=
  cndO_is (by omega) (fun j h0 hj => h j h0 (by omega)) (.inr (by rw [show k - 1 + 1 = k by omega]; exact hf))
theorem oM_miss {A : List (List Int)} {B : List Int} {kind : Int} (h : ∀ j, 0 < j → j < 17 → asM A B kind j = true) : oM A B kind = 16 := cndO_is (Nat.le_refl _) (fun j h0 hj => h j h0 (by omega)) (.inl rfl)
/-! ### the reference -/
end Go.Proofs.YtofabikjjkapmaaGreat

/- The laws' marking and holding, at lists of lists and at tableaus. -/
set_option linter.unusedVariables false
set_option linter.unusedSimpArgs false
namespace Go.Proofs.YtofabikjjkapmaaGreat
open Go.RowKit

def tot (xss : List (List Int)) : Nat := xss.flatten.length
theorem tot_cons (zs : List Int) (r : List (List Int)) : tot (zs :: r) = zs.length + tot r := by simp [tot]
theorem RowsOwn.set {w w' : World} {B C : Nat} {e : TypeId} {vs : List Value} {xss : List (List Int)} {j : Nat} {u : Value} {zs : List Int} (h : RowsOwn w B C e vs xss) (hu : vs[j]? = some u) (hg : w.grownBy w' u.ownBlock) (hn : OwnInts w' B e u zs) : RowsOwn w' B C e vs (xss.set j zs) := by
  obtain ⟨h1, h2, h3⟩ := h
  refine ⟨by simp [h1], fun k u' zs' hu' hz' => ?_, h3⟩
  have hj := (List.getElem?_eq_some_iff.1 hu).1
  by_cases hk : k = j
  · subst hk
    rw [hu] at hu'
    obtain rfl : u = u' := by simpa using hu'
    have hz : xss[k]? = some (xss[k]'(by omega)) := List.getElem?_eq_getElem _
    rw [List.getElem?_set_self (by omega)] at hz'
    obtain rfl : zs = zs' := by simpa using hz'
    exact ⟨hn, (h2 k u _ hu hz).2⟩
  · rw [List.getElem?_set_ne (by omega)] at hz'
    have ho := h2 k u' zs' hu' hz'
    have hap : Apart u' u := by
      by_cases hlt : k < j
      · exact h3 k j u' u hlt hu' hu
      · exact (h3 j k u u' (by omega) hu hu').symm
    exact ⟨ho.1.kept hg hap, ho.2⟩

/-- no block has turned but those of the values vs -/
def Far (vs : List Value) (w w' : World) : Prop := ∀ b, b < w.heap.size → (∀ (i : Nat) (u : Value), vs[i]? = some u → u.ownBlock ≠ some b) → w'.heap[b]? = w.heap[b]?
theorem Far.refl (vs : List Value) (w : World) : Far vs w w := fun _ _ _ => rfl
theorem Far.grown {vs : List Value} {w w1 w2 : World} {j : Nat} {u : Value} (h : Far vs w w1) (hs : w.heap.size ≤ w1.heap.size) (hu : vs[j]? = some u) (hg : w1.grownBy w2 u.ownBlock) : Far vs w w2 :=
  fun b hb hn => (hg.block b (Nat.lt_of_lt_of_le hb hs) (fun e => hn j u hu e.symm)).trans (h b hb hn)
theorem Far.kept {vs : List Value} {w w' : World} {B C : Nat} {e : TypeId} {v : Value} {zs : List Int} (h : Far vs w w') (ho : OI w B C e v zs) (ha : ∀ (i : Nat) (u : Value), vs[i]? = some u → Apart u v) : OI w' B C e v zs :=
  ⟨⟨ho.1.1.of_block fun b hb => h b (ho.1.1.lt b hb) (fun i u hu e => (ha i u hu).elim (fun h1 => by rw [h1] at e; cases e) (fun h1 => h1 (e.trans hb.symm))), ho.1.2⟩, ho.2⟩

end Go.Proofs.YtofabikjjkapmaaGreat

set_option linter.unusedVariables false
set_option linter.unusedSimpArgs false
namespace Go.Proofs.YtofabikjjkapmaaGreat
open Go.RowKit

theorem tot_le {n : Nat} : ∀ {xss : List (List Int)}, (∀ zs ∈ xss, zs.length ≤ n) → tot xss ≤ xss.length * n
  | [], _ => by simp [tot]
  | zs :: r, h => by
    rw [tot_cons, List.length_cons, Nat.succ_mul]
    have h1 := h zs List.mem_cons_self
    have h2 := tot_le (xss := r) fun ys hy => h ys (List.mem_cons_of_mem _ hy)
    omega
theorem IsTab.numTab {A : List (List Int)} {Bs : List Int} (h : IsTab A Bs) : NumTab A Bs :=
  ⟨by have := h.len; have := h.hi; omega, by have := h.hi; omega, fun zs hz => ⟨nums_iff.1 (h.row zs hz).2, by have := (h.row zs hz).1; have := h.hi; omega⟩, nums_iff.1 h.num⟩
theorem OT.nil (w : World) (B C : Nat) : OT w B C (.agg #[.slice none 0 0, .slice none 0 0]) [] [] :=
  ⟨_, _, [], rfl, Own.nil _ _ _, fun b hb => by simp [Value.ownBlock] at hb, RowsOwn.nil _ _ _ _, OI.nil _ _ _ _, fun k u hu => by simp at hu⟩

end Go.Proofs.YtofabikjjkapmaaGreat

set_option linter.unusedVariables false
set_option linter.unusedSimpArgs false
namespace Go.Proofs.YtofabikjjkapmaaGreat
open Go.RowKit

theorem ret_bl {a b : Bool} (h : a = b) : Ending.returned (.bool a) = Ending.returned (.bool b) := by rw [h]
/-- wr came from w3 by appends to a list that first lay in block g -/
structure Apd (w3 wr : World) (g : Nat) (o : Value) : Prop where
  gr : w3.grownBy wr (some g)
  ob : ∀ b, o.ownBlock = some b → b = g ∨ w3.heap.size ≤ b
section
variable {w3 wr w5 w6 : World} {g : Nat} {o v1 : Value}
theorem Apd.refl (h : o.ownBlock = some g) : Apd w3 w3 g o := ⟨World.grownBy.refl _ _, fun b hb => .inl (by rw [h] at hb; injection hb with hb; exact hb.symm)⟩
theorem Apd.step (h : Apd w3 wr g o) (hb : Below wr.heap.size wr w5) : Apd w3 w5 g o :=
  ⟨⟨hb.os.trans h.gr.os, hb.tape.trans h.gr.tape, hb.output.trans h.gr.output, Nat.le_trans h.gr.size hb.size, fun k hk hne => (hb.block k (Nat.lt_of_lt_of_le hk h.gr.size)).trans (h.gr.block k hk hne)⟩, h.ob⟩
theorem Apd.app (h : Apd w3 wr g o) (hg : Grow wr w6 o v1) : Apd w3 w6 g v1 := by
  refine ⟨⟨hg.1.os.trans h.gr.os, hg.1.tape.trans h.gr.tape, hg.1.output.trans h.gr.output, Nat.le_trans h.gr.size hg.1.size, fun k hk hne => (hg.1.block k (Nat.lt_of_lt_of_le hk h.gr.size) (fun e => ?_)).trans (h.gr.block k hk hne)⟩, fun b hb => ?_⟩
  · rcases h.ob k e.symm with e2 | e2
    · exact hne (by rw [e2])
    · omega
  · rcases hg.2 with e | ⟨b', e, hle⟩
    · rw [e] at hb; exact h.ob b hb
    · rw [e] at hb
      injection hb with hb
      subst hb
      exact .inr (Nat.le_trans h.gr.size hle)
theorem Apd.cell (h : Apd w3 wr g o) {ad : Addr} {v : Value} (hc : w3.cell? ad = some v) (hne : ad.block ≠ g) : wr.cell? ad = some v := by
  exact h.gr.cell hc (fun e => hne (by injection e))
theorem Apd.ownBlk (h : Apd w3 wr g o) {B : Nat} {e : TypeId} {u : Value} {vs : List Value} (hO : Own w3 B e u vs) (hlt : g < B) : Own wr B e u vs := hO.kept h.gr (by
  cases hb : u.ownBlock with
  | none => exact .inl rfl
  | some b => exact .inr fun e => by injection e with e; have := hO.ge b hb; omega)
theorem Apd.ints (h : Apd w3 wr g o) {B : Nat} {e : TypeId} {u : Value} {zs : List Int} (hO : OwnInts w3 B e u zs) (hlt : g < B) : OwnInts wr B e u zs := ⟨h.ownBlk hO.1 hlt, hO.2⟩
end
end Go.Proofs.YtofabikjjkapmaaGreat

