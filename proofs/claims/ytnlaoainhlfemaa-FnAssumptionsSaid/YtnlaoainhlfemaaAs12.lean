/- Walks: is it a tableau (the program's and the reference's test). | Walks: IsSymmetric of the program and of the reference. | Walks: dot, applied, stageWeights, weight of tableaus. | Plain: the tests of the conditions B, C and D as the program and the reference reckon them. No walk. |  | A tableau is a tableau of numbers; the empty tableau. No program in sight. -/
import Derived.Test.YtnlaoainhlfemaaRows
import Derived.Test.YtnlaoainhlfemaaAs2
import Derived.Test.YtnlaoainhlfemaaAs3
import Derived.Test.YtnlaoainhlfemaaAs1
import Derived.Test.YtnlaoainhlfemaaAs4
import Derived.WalkLawsBesides
import Derived.BigGuardPart
import Derived.Deep.QuietTactic
import Derived.BigQuiet
import Derived.Test.YtnlaoainhlfemaaAs11
import Derived.Test.YtnlaoainhlfemaaAs10
set_option linter.unusedVariables false
set_option linter.unusedSimpArgs false
namespace Go.Proofs.Ytnlaoainhlfemaa
open Go.RowKit

def rowB (n : Nat) (row : List Int) : Bool := decide (row.length = n) && nums row
def tabB (A : List (List Int)) (Bs : List Int) : Bool := inR Bs.length 1 8 && decide (A.length = Bs.length) && nums Bs && A.all (rowB Bs.length)

set_option maxHeartbeats 400000 in
theorem lib_IndexFuncR (w : World) (v : Value) (xss : List (List Int)) (g : Nat) (c0 : Value) (p : List Int → Bool) (ha : Rows w v xss)
    (hcf : ∀ (args : Array Value) (w : World), Sem.run Try.prog (callFunc g args) w = .ok (.enter g args) w)
    (hp : ∀ (u : Value) (zs : List Int), Ints w u zs → Calls Try.prog g #[u, c0] w fun e w' => e = .returned (.bool (p zs)) ∧ w = w') :
    Calls Try.prog 145 #[v, .func (.func g) #[] #[c0]] w fun e w' => e = .returned (.int .i64 (idxF p xss)) ∧ w = w' := by
  obtain ⟨A, c, rfl, h1, h2, h3⟩ := ha.open_
  clear ha
  have H3 := Lib.hid h3
  have HP := Lib.hid hp
  clear h3 hp
  go_enter Try.func145, Try.ntmps145
  go_wp2_with fail
  go_loop [8] (fun i => ∃ k : Nat, k ≤ xss.length ∧ i = .int .i64 k ∧ Hid (∀ i y, i < k → xss[i]? = some y → p y = false)) (fun i => xss.length - (intOf i).toNat)
  case atStart => exact ⟨0, Nat.zero_le _, rfl, fun i y h => by omega⟩
  case round =>
    obtain ⟨k, hk, rfl, hI⟩ := hrel
    by_cases hlt : k < xss.length
    · obtain ⟨ad, u, zs, rfl, hz, hu, hc⟩ := H3.out k hlt
      have HZ := Lib.hid hz
      have HU := Lib.hid hu
      clear hz hu
      go_wp2_with fail
      refine (HP.out u zs HU.out).mono ?_
      rintro e w' ⟨rfl, rfl⟩
      go_wp2_with fail
      · have hpz : p zs = true := by assumption
        go_ret
        exact ⟨ret_int (idxF_hit hI.out HZ.out hpz).symm, rfl⟩
      · have hpz : p zs = false := by assumption
        go_round
        case rel =>
          refine ⟨k + 1, by omega, by go_num, fun i y hi hy => ?_⟩
          by_cases e : i = k
          · subst e
            rw [HZ.out] at hy
            cases hy
            exact hpz
          · exact hI.out i y (by omega) hy
        case measure => simp [intOf]; omega
    · have : k = xss.length := by omega
      subst this
      go_wp2_with fail
      go_ret
      exact ⟨ret_int (idxF_miss hI.out).symm, rfl⟩

set_option maxHeartbeats 400000 in
theorem lib_ContainsFuncR (w : World) (v : Value) (xss : List (List Int)) (g : Nat) (c0 : Value) (p : List Int → Bool) (ha : Rows w v xss)
    (hcf : ∀ (args : Array Value) (w : World), Sem.run Try.prog (callFunc g args) w = .ok (.enter g args) w)
    (hp : ∀ (u : Value) (zs : List Int), Ints w u zs → Calls Try.prog g #[u, c0] w fun e w' => e = .returned (.bool (p zs)) ∧ w = w') :
    Calls Try.prog 92 #[v, .func (.func g) #[] #[c0]] w fun e w' => e = .returned (.bool (xss.any p)) ∧ w = w' := by
  have HA := Lib.hid ha
  have HP := Lib.hid hp
  clear ha hp
  go_enter Try.func92, Try.ntmps92
  go_wp2_with (go_at_call 145; refine (lib_IndexFuncR _ _ _ _ _ _ HA.out hcf HP.out).mono ?_; rintro e w' ⟨rfl, rfl⟩)
  go_ret
  exact ⟨ret_bool (idxF_nonneg p xss), rfl⟩

set_option maxHeartbeats 400000 in
theorem i_IsTableau1 (w : World) (v : Value) (zs : List Int) (a : Addr) (n : Nat) (ha : Ints w v zs) (hc : w.cell? a = some (.int .i64 (n : Int))) :
    Calls Try.prog 93 #[v, .pointer (some a)] w fun e w' => e = .returned (.bool (!rowB n zs)) ∧ w = w' := by
  have HA := Lib.hid ha
  obtain ⟨A, c, rfl, h1, h2, h3⟩ := ha.open_
  clear ha h3
  by_cases hl : zs.length = n
  · have HF := Lib.hid (show (!rowB n zs) = !nums zs by simp [rowB, hl])
    have hd : (((zs.length : Nat) : Int) != (n : Int)) = false := by simp [hl]
    clear hl
    go_enter Try.func93, Try.ntmps93
    go_wp2_with (go_at_call 91; refine (i_areNumbers _ _ _ HA.out).mono ?_; rintro e w' ⟨rfl, rfl⟩)
    go_ret
    exact ⟨ret_bool HF.out.symm, rfl⟩
  · have HF := Lib.hid (show (!rowB n zs) = true by simp [rowB, hl])
    have hd : (((zs.length : Nat) : Int) != (n : Int)) = true := by simp; omega
    clear hl
    go_enter Try.func93, Try.ntmps93
    go_wp2_with (go_at_call 91; refine (i_areNumbers _ _ _ HA.out).mono ?_; rintro e w' ⟨rfl, rfl⟩)
    go_ret
    exact ⟨ret_bool HF.out.symm, rfl⟩

theorem any_not_all {α : Type} (p : α → Bool) (l : List α) : (l.any fun x => !p x) = !l.all p := by
  induction l with
  | nil => rfl
  | cons x l ih => simp only [List.any_cons, List.all_cons, ih]; cases p x <;> simp

set_option maxHeartbeats 1000000 in
theorem i_IsTableau (w : World) (v : Value) (A : List (List Int)) (Bs : List Int) (ha : TabArg w v A Bs) :
    Calls Try.prog 49 #[v] w fun e w' => e = .returned (.bool (tabB A Bs)) ∧ Below w.heap.size w w' := by
  obtain ⟨va, vb, rfl, ha1, ha2⟩ := ha
  have BB := Lib.hid (below2 w (.cells #[va, vb] 27) (.cells #[.int .i64 (Bs.length : Int)] 3))
  have H1 := Lib.hid (ha1.below BB.out)
  have H2 := Lib.hid (ha2.below BB.out)
  obtain ⟨A1, c1, rfl, g1, g2, _⟩ := ha1.open_
  obtain ⟨A2, c2, rfl, k1, k2, _⟩ := ha2.open_
  clear ha1 ha2
  cases hr : inR Bs.length 1 8 with
  | false =>
    have HF := Lib.hid (show tabB A Bs = false by simp [tabB, hr])
    go_enter Try.func49, Try.ntmps49
    go_wp2_with (first | (go_at_call 90; refine (lib_lengthI _ _ _ H2.out).mono ?_; rintro e w' ⟨rfl, rfl⟩) | (go_at_call 64; refine (i_inRange _ _ _ _).mono ?_; rintro e w' ⟨rfl, rfl⟩))
    go_ret
    exact ⟨ret_bool HF.out.symm, BB.out⟩
  | true =>
    by_cases hl : A.length = Bs.length
    · have hd : (((A.length : Nat) : Int) != (Bs.length : Int)) = false := by simp [hl]
      cases hn : nums Bs with
      | false =>
        have HF := Lib.hid (show tabB A Bs = false by simp [tabB, hn])
        clear hl
        go_enter Try.func49, Try.ntmps49
        go_wp2_with (first | (go_at_call 90; refine (lib_lengthI _ _ _ H2.out).mono ?_; rintro e w' ⟨rfl, rfl⟩) | (go_at_call 64; refine (i_inRange _ _ _ _).mono ?_; rintro e w' ⟨rfl, rfl⟩) | (go_at_call 91; refine (i_areNumbers _ _ _ H2.out).mono ?_; rintro e w' ⟨rfl, rfl⟩))
        go_ret
        exact ⟨ret_bool HF.out.symm, BB.out⟩
      | true =>
        have HF := Lib.hid (show tabB A Bs = A.all (rowB Bs.length) by simp [tabB, hr, hl, hn])
        clear hl
        go_enter Try.func49, Try.ntmps49
        go_wp2_with (first | (go_at_call 90; refine (lib_lengthI _ _ _ H2.out).mono ?_; rintro e w' ⟨rfl, rfl⟩) | (go_at_call 64; refine (i_inRange _ _ _ _).mono ?_; rintro e w' ⟨rfl, rfl⟩) | (go_at_call 91; refine (i_areNumbers _ _ _ H2.out).mono ?_; rintro e w' ⟨rfl, rfl⟩))
        refine (lib_ContainsFuncR _ _ _ _ _ (fun row => !rowB Bs.length row) H1.out (fun _ _ => by kernel_rfl) (fun u zs hu => i_IsTableau1 _ _ _ _ _ hu (by simp))).mono ?_
        rintro e w' ⟨rfl, rfl⟩
        go_wp2_with fail
        go_ret
        exact ⟨ret_bool (by rw [HF.out, any_not_all, Bool.not_not]), BB.out⟩
    · have hd : (((A.length : Nat) : Int) != (Bs.length : Int)) = true := by simp; omega
      have HF := Lib.hid (show tabB A Bs = false by simp [tabB, hl])
      clear hl
      go_enter Try.func49, Try.ntmps49
      go_wp2_with (first | (go_at_call 90; refine (lib_lengthI _ _ _ H2.out).mono ?_; rintro e w' ⟨rfl, rfl⟩) | (go_at_call 64; refine (i_inRange _ _ _ _).mono ?_; rintro e w' ⟨rfl, rfl⟩))
      go_ret
      exact ⟨ret_bool HF.out.symm, BB.out⟩

theorem all_rows {n : Nat} {A : List (List Int)} (h : ∀ i y, i < A.length → A[i]? = some y → rowB n y = true) : A.all (rowB n) = true := by
  rw [List.all_eq_true]
  intro x hx
  obtain ⟨i, hi, rfl⟩ := List.getElem_of_mem hx
  exact h i _ hi (List.getElem?_eq_getElem hi)
theorem not_all_rows {n k : Nat} {A : List (List Int)} {zs : List Int} (h : A[k]? = some zs) (hz : rowB n zs = false) : A.all (rowB n) = false := by
  rw [List.all_eq_false]
  exact ⟨zs, List.mem_of_getElem? h, by simp [hz]⟩

set_option maxHeartbeats 1000000 in
theorem s_l09Is (w : World) (v : Value) (A : List (List Int)) (Bs : List Int) (ha : TabArg w v A Bs) :
    Calls Try.prog 51 #[v] w fun e w' => e = .returned (.bool (tabB A Bs)) ∧ Below w.heap.size w w' := by
  obtain ⟨va, vb, rfl, ha1, ha2⟩ := ha
  have BB := Lib.hid (below1 w (.cells #[va, vb] 27))
  have H1 := Lib.hid (ha1.below BB.out)
  have H2 := Lib.hid (ha2.below BB.out)
  obtain ⟨A1, c1, hva, g1, g2, g3⟩ := H1.out.open_
  obtain ⟨A2, c2, hvb, k1, k2, _⟩ := ha2.open_
  subst hva
  subst hvb
  have G3 := Lib.hid g3
  clear ha1 ha2 g3
  by_cases q1 : (Bs.length : Int) < (1 : Int)
  · have HF := Lib.hid (show tabB A Bs = false by simp [tabB, inR]; omega)
    go_enter Try.func51, Try.ntmps51
    go_wp2_with (go_at_call 98; refine (s_l01Numbers _ _ _ H2.out).mono ?_; rintro e w' ⟨rfl, rfl⟩)
    go_ret
    exact ⟨ret_bool HF.out.symm, BB.out⟩
  · by_cases q2 : (8 : Int) < (Bs.length : Int)
    · have HF := Lib.hid (show tabB A Bs = false by simp [tabB, inR]; omega)
      go_enter Try.func51, Try.ntmps51
      go_wp2_with (go_at_call 98; refine (s_l01Numbers _ _ _ H2.out).mono ?_; rintro e w' ⟨rfl, rfl⟩)
      go_ret
      exact ⟨ret_bool HF.out.symm, BB.out⟩
    · have hr : inR Bs.length 1 8 = true := by rw [inR_iff]; omega
      by_cases hl : A.length = Bs.length
      · have hd : (((A.length : Nat) : Int) != (Bs.length : Int)) = false := by simp [hl]
        have hle : A.length ≤ Bs.length := by omega
        have hle' : Bs.length ≤ A.length := by omega
        cases hn : nums Bs with
        | false =>
          have HF := Lib.hid (show tabB A Bs = false by simp [tabB, hn])
          clear hl hr
          go_enter Try.func51, Try.ntmps51
          go_wp2_with (go_at_call 98; refine (s_l01Numbers _ _ _ H2.out).mono ?_; rintro e w' ⟨rfl, rfl⟩)
          go_ret
          exact ⟨ret_bool HF.out.symm, BB.out⟩
        | true =>
          have HF := Lib.hid (show tabB A Bs = A.all (rowB Bs.length) by simp [tabB, hr, hl, hn])
          clear hl hr
          go_enter Try.func51, Try.ntmps51
          go_wp2_with (go_at_call 98; refine (s_l01Numbers _ _ _ H2.out).mono ?_; rintro e w' ⟨rfl, rfl⟩)
          go_loop [4] (fun i => ∃ k : Nat, k ≤ Bs.length ∧ i = .int .i64 k ∧ Hid (∀ i y, i < k → A[i]? = some y → rowB Bs.length y = true)) (fun i => Bs.length - (intOf i).toNat)
          case atStart => exact ⟨0, Nat.zero_le _, rfl, fun i y h => by omega⟩
          case round =>
            obtain ⟨k, hk, rfl, hI⟩ := hrel
            by_cases hlt : k < Bs.length
            · obtain ⟨ad, u, zs, rfl, hz, hu, hc⟩ := G3.out k (by omega)
              have HU := Lib.hid hu
              obtain ⟨A3, c3, rfl, _, _, _⟩ := hu.open_
              have HZ := Lib.hid hz
              have hka : (k : Int) < (A.length : Int) := by omega
              clear hz hu
              by_cases hl2 : zs.length = Bs.length
              · have hd2 : (((zs.length : Nat) : Int) != (Bs.length : Int)) = false := by simp [hl2]
                have HL2 := Lib.hid hl2
                clear hl2
                cases hn2 : nums zs with
                | false =>
                  go_wp2_with (go_at_call 98; refine (s_l01Numbers _ _ _ HU.out).mono ?_; rintro e w' ⟨rfl, rfl⟩)
                  go_ret
                  exact ⟨ret_bool (by rw [HF.out, not_all_rows HZ.out (by simp [rowB, hn2])]), BB.out⟩
                | true =>
                  go_wp2_with (go_at_call 98; refine (s_l01Numbers _ _ _ HU.out).mono ?_; rintro e w' ⟨rfl, rfl⟩)
                  go_round
                  case rel =>
                    refine ⟨k + 1, by omega, by go_num, fun i y hi hy => ?_⟩
                    by_cases e : i = k
                    · subst e
                      rw [HZ.out] at hy
                      cases hy
                      simp [rowB, hn2, HL2.out]
                    · exact hI.out i y (by omega) hy
                  case measure => simp [intOf]; omega
              · have hd2 : (((zs.length : Nat) : Int) != (Bs.length : Int)) = true := by simp; omega
                have HL2 := Lib.hid hl2
                clear hl2
                go_wp2_with (go_at_call 98; refine (s_l01Numbers _ _ _ HU.out).mono ?_; rintro e w' ⟨rfl, rfl⟩)
                go_ret
                exact ⟨ret_bool (by rw [HF.out, not_all_rows HZ.out (by simp [rowB]; intro h; exact absurd h HL2.out)]), BB.out⟩
            · have : k = Bs.length := by omega
              subst this
              go_wp2_with fail
              go_ret
              exact ⟨ret_bool (by rw [HF.out]; exact (all_rows fun i y hi hy => hI.out i y (by omega) hy).symm), BB.out⟩
      · have hd : (((A.length : Nat) : Int) != (Bs.length : Int)) = true := by simp; omega
        have HF := Lib.hid (show tabB A Bs = false by simp [tabB, hl])
        clear hl
        go_enter Try.func51, Try.ntmps51
        go_wp2_with (go_at_call 98; refine (s_l01Numbers _ _ _ H2.out).mono ?_; rintro e w' ⟨rfl, rfl⟩)
        go_ret
        exact ⟨ret_bool HF.out.symm, BB.out⟩
end Go.Proofs.Ytnlaoainhlfemaa

set_option linter.unusedVariables false
set_option linter.unusedSimpArgs false
namespace Go.Proofs.Ytnlaoainhlfemaa
open Go.RowKit

/-- what the test for a tableau says -/
structure IsTab (A : List (List Int)) (Bs : List Int) : Prop where
  lo : 1 ≤ Bs.length
  hi : Bs.length ≤ 8
  len : A.length = Bs.length
  row : ∀ zs ∈ A, zs.length = Bs.length ∧ nums zs = true
  num : nums Bs = true
theorem isTab_of {A : List (List Int)} {Bs : List Int} (h : tabB A Bs = true) : IsTab A Bs := by
  simp only [tabB, Bool.and_eq_true, decide_eq_true_eq, List.all_eq_true, inR_iff] at h
  obtain ⟨⟨⟨h1, h2⟩, h3⟩, h4⟩ := h
  refine ⟨by omega, by omega, h2, fun zs hz => ?_, h3⟩
  have := h4 zs hz
  simpa [rowB] using this

def tabC (A : List (List Int)) (Bs : List Int) : Int := if tabB A Bs then 0 else 1

set_option maxHeartbeats 400000 in
theorem im_stages (w : World) (v : Value) (A : List (List Int)) (Bs : List Int) (ha : TabArg w v A Bs) :
    Calls Try.prog 58 #[v] w fun e w' => e = .returned (.int .i64 Bs.length) ∧ Below w.heap.size w w' := by
  obtain ⟨va, vb, rfl, ha1, ha2⟩ := ha
  have BB := Lib.hid (below1 w (.cells #[va, vb] 27))
  obtain ⟨A2, c2, rfl, k1, k2, _⟩ := ha2.open_
  clear ha1 ha2
  go_enter Try.func58, Try.ntmps58
  go_wp2
  go_ret
  exact ⟨rfl, BB.out⟩

end Go.Proofs.Ytnlaoainhlfemaa

set_option maxRecDepth 100000
set_option linter.unusedVariables false
set_option linter.unusedSimpArgs false
namespace Go.Proofs.Ytnlaoainhlfemaa
open Go.RowKit

theorem sR_bd {s : Nat} {f : Nat → Int} {M : Int} (h : ∀ i, i < s → 0 ≤ f i ∧ f i ≤ M) : 0 ≤ sR s f ∧ sR s f ≤ (s : Int) * M := by
  induction s with
  | zero => rw [sR_zero]; simp
  | succ s ih =>
    have h1 := ih fun i hi => h i (by omega)
    have h2 := h s (by omega)
    rw [sR_succ, show ((s + 1 : Nat) : Int) * M = (s : Int) * M + M by rw [Int.natCast_add, Int.add_mul]; simp]
    omega
def dtF (a b : List Int) (k : Nat) : Int := a.getD k 0 * b.getD k 0
def dtZ (a b : List Int) : Int := sR a.length (dtF a b) % 10007
theorem SqT.of {A : List (List Int)} {B : List Int} (h : IsTab A B) : SqT A B B.length := ⟨h.len, rfl, fun r hr => ⟨nums_iff.1 (h.row r hr).2, (h.row r hr).1⟩, nums_iff.1 h.num⟩
theorem getD_bd {a : List Int} (h : Nums a) (k : Nat) : 0 ≤ a.getD k 0 ∧ a.getD k 0 ≤ 10006 := by
  rw [List.getD_eq_getElem?_getD]
  cases hk : a[k]? with
  | none => simp
  | some z => exact h z (List.mem_of_getElem? hk)
set_option maxHeartbeats 4000000 in
theorem i_dot (w : World) (va vb : Value) (a b : List Int) (h1 : Ints w va a) (h2 : Ints w vb b) (n1 : Nums a) (n2 : Nums b) (hl : a.length ≤ b.length) (hn : a.length ≤ 1000) :
    Calls Try.prog 187 #[va, vb] w fun e w' => e = .returned (.int .i64 (dtZ a b)) ∧ w = w' := by
  obtain ⟨A, c, rfl, -, -, h3⟩ := h1.open_
  obtain ⟨A', c', rfl, -, -, g3⟩ := h2.open_
  have H3 := Lib.hid h3
  have G3 := Lib.hid g3
  have HBD := Lib.hid (show ∀ k, k ≤ a.length → 0 ≤ sR k (dtF a b) ∧ sR k (dtF a b) ≤ 1000 * 100120036 from fun k hk => by
    have h := sR_bd (s := k) (f := dtF a b) (M := 100120036) (fun i _ => by
      have x := getD_bd n1 i
      have y := getD_bd n2 i
      obtain ⟨p1, p2⟩ := mul_bd 10006 10006 x.1 x.2 y.1 y.2
      unfold dtF
      omega)
    omega)
  have HN := Lib.hid (show ∀ k, 0 ≤ dtF a b k ∧ dtF a b k ≤ 100120036 from fun k => by
    have x := getD_bd n1 k
    have y := getD_bd n2 k
    obtain ⟨p1, p2⟩ := mul_bd 10006 10006 x.1 x.2 y.1 y.2
    unfold dtF
    omega)
  have HZ := Lib.hid (show dtZ a b = sR a.length (dtF a b) % 10007 from rfl)
  clear h1 h2 h3 g3 n1 n2
  generalize dtZ a b = dz at HZ ⊢
  go_enter Try.func187, Try.ntmps187
  go_wp2_with fail
  go_loopw [5, 10] (fun s x wr => ∃ k : Nat, k ≤ a.length ∧ x = .int .i64 k ∧ s = .int .i64 (sR k (dtF a b)) ∧ wr = w) (fun _ x _ => a.length - (intOf x).toNat)
  case atStart => exact ⟨0, Nat.zero_le _, rfl, by rw [sR_zero], rfl⟩
  case round =>
    obtain ⟨k, hk, rfl, rfl, rfl⟩ := hrel
    have hsb := HBD.out k hk
    by_cases hlt : k < a.length
    · obtain ⟨ad, x, rfl, hx, -, hcx⟩ := H3.out k hlt
      obtain ⟨ad', y, rfl, hy, -, hcy⟩ := G3.out k (by omega)
      have hxy := HN.out k
      have e : dtF a b k = x * y := by unfold dtF; rw [List.getD_eq_getElem?_getD, List.getD_eq_getElem?_getD, hx, hy]; rfl
      have HS := Lib.hid (show sR (k + 1) (dtF a b) = sR k (dtF a b) + x * y from by rw [sR_succ, e])
      rw [e] at hxy
      generalize sR k (dtF a b) = sm at *
      obtain ⟨m, hm⟩ : ∃ m, m = x * y := ⟨_, rfl⟩
      rw [← hm] at hxy HS
      have hw1 : wrap64 (x * y) = m := by rw [← hm]; exact w64_in' _ (by omega)
      have hw2 : IntKind.i64.wrap (x * y) = m := by rw [← hm]; exact IntWalk.i64_in _ (by omega)
      have hw3 : wrap64 (sm + m) = sm + m := w64_in' _ (by omega)
      have hw4 : IntKind.i64.wrap (sm + m) = sm + m := IntWalk.i64_in _ (by omega)
      have hkk : (k : Int) < (a.length : Int) := by omega
      have hkb : (k : Int) < (b.length : Int) := by omega
      have hkb' : k < b.length := by omega
      clear hm hx hy e hsb hxy
      go_wp2_with fail
      go_roundw
      case rel => exact ⟨k + 1, by omega, by go_num, by rw [HS.out], by first | rfl | trivial⟩
      case measure => simp [intOf]; omega
    · have hkl : k = a.length := by omega
      subst hkl
      generalize sR a.length (dtF a b) = sm at *
      go_wp2_with (go_at_call 148; refine (i_num sm _ (by omega) (by omega)).mono ?_; rintro e w' ⟨rfl, rfl⟩)
      go_ret
      exact ⟨ret_i64 HZ.out.symm, rfl⟩
/-- the matrix times a list -/
def mulR (A : List (List Int)) (v : List Int) : List Int := A.map fun r => dtZ r v
theorem mulR_get {A : List (List Int)} {v r : List Int} {i : Nat} (h : A[i]? = some r) : (mulR A v)[i]? = some (dtZ r v) := by unfold mulR; rw [List.getElem?_map, h]; rfl
theorem dtZ_num (a b : List Int) : 0 ≤ dtZ a b ∧ dtZ a b ≤ 10006 := by unfold dtZ; omega
theorem mulR_nums (A : List (List Int)) (v : List Int) : Nums (mulR A v) := by
  intro z hz
  obtain ⟨r, -, rfl⟩ := List.mem_map.1 hz
  exact dtZ_num r v
theorem mulR_len (A : List (List Int)) (v : List Int) : (mulR A v).length = A.length := by simp [mulR]
set_option maxHeartbeats 8000000 in
theorem im_applied (w : World) (v vb : Value) (A : List (List Int)) (Bs b : List Int) (ha : TabArg w v A Bs) (h2 : Ints w vb b) (hA : ∀ r ∈ A, Nums r ∧ r.length ≤ b.length) (n2 : Nums b) (hn : A.length ≤ 1000) (hb : b.length ≤ 1000) :
    Calls Try.prog 216 #[v, vb] w fun e w' => ∃ x, e = .returned x ∧ OwnInts w' w.heap.size tI x (mulR A b) ∧ Below w.heap.size w w' := by
  obtain ⟨va, vb2, rfl, ha1, ha2⟩ := ha
  have BB := Lib.hid (below1 w (.cells #[va, vb2] 27))
  have HR := Lib.hid (ha1.below BB.out)
  have HV := Lib.hid (h2.below BB.out)
  obtain ⟨A1, c1, rfl, -, -, -⟩ := ha1.open_
  obtain ⟨A2, c2, rfl, -, -, -⟩ := ha2.open_
  obtain ⟨A3, c3, rfl, -, -, -⟩ := h2.open_
  have HA := Lib.hid hA
  have HN := Lib.hid n2
  obtain ⟨W, hW⟩ : ∃ W, W = w.alloc (.cells #[.slice A1 A.length c1, .slice A2 Bs.length c2] 27) := ⟨_, rfl⟩
  have HK := Lib.hid (show Blk W w.heap.size 27 #[.slice A1 A.length c1, .slice A2 Bs.length c2] from by rw [hW]; exact Blk.new _ _ _)
  rw [← hW] at BB HR HV
  have OL := Lib.hid (show Own (W.alloc (.cells #[] tI)) W.heap.size tI (.slice (some ⟨W.heap.size, 0, none⟩) 0 0) (ints []) from own_lit W tI [] (by simp [maxLen]))
  have k0 : ∀ o, (W.alloc o).cell? ⟨w.heap.size, 0, none⟩ = some (.slice A1 A.length c1) := fun o => (HK.out.alloc o).cell 0
  clear ha1 ha2 h2 hA n2
  go_enter Try.func216, Try.ntmps216
  go_upto_region 1 with fail
  rw [← hW]
  clear hW
  go_wp2_with fail
  clear k0
  go_loopw [5, 12] (fun o x wr => ∃ i : Nat, i ≤ A.length ∧ x = .int .i64 i ∧ Own wr W.heap.size tI o (ints ((mulR A b).take i)) ∧ Below W.heap.size W wr) (fun _ x _ => A.length - (intOf x).toNat)
  case atStart => exact ⟨0, Nat.zero_le _, rfl, OL.out, below1 W _⟩
  case round =>
    obtain ⟨i, hi, rfl, ho, hb⟩ := hrel
    rename World => wq
    clear OL
    have hel : ((mulR A b).take i).length = i := by rw [List.length_take, mulR_len]; omega
    have hol := ho.cells.open_
    rw [ints_len, hel] at hol
    obtain ⟨Ao, co, rfl, -, -⟩ := hol
    have HEL := Lib.hid hel
    have HO := Lib.hid ho
    have HBQ := Lib.hid hb
    clear ho hb hel
    by_cases hlt : i < A.length
    · obtain ⟨A1', c1', he, -, -, h3⟩ := (HR.out.below HBQ.out).open_
      simp only [Value.slice.injEq, true_and] at he
      obtain ⟨rfl, rfl⟩ := he
      obtain ⟨ad, u, r, rfl, hr, hu, hc⟩ := h3 i hlt
      obtain ⟨hrn, hrl⟩ := HA.out r (List.mem_of_getElem? hr)
      have HD := Lib.hid (i_dot wq u _ r b hu (HV.out.below HBQ.out) hrn HN.out hrl (by omega))
      have HTS := Lib.hid (show ints ((mulR A b).take (i + 1)) = ints ((mulR A b).take i) ++ [.int .i64 (dtZ r b)] from by rw [List.take_add_one, mulR_get hr, ints, ints, List.map_append]; rfl)
      have hii : (i : Int) < (A.length : Int) := by omega
      generalize dtZ r b = dd at HD HTS
      clear h3 hr hu hrn hrl
      go_wp2_with (first
        | (go_at_call 187; refine HD.out.mono ?_; rintro e w5 ⟨rfl, rfl⟩)
        | (at_builtin; go_loud (refine wpList_app1 T_int HO.out (by rw [ints_len, HEL.out]; omega) HBQ.out.size (by rfl) rfl (by rfl) (by rfl) (by rfl) ?_; intro v1 w6 hown1 hgr1; have HNN := Lib.hid hown1; have HGR := Lib.hid hgr1; clear hown1 hgr1)))
      go_roundw
      case rel => exact ⟨i + 1, by omega, by go_num, by rw [HTS.out]; exact HNN.out, HGR.out.below HBQ.out HBQ.out.size HO.out.ge⟩
      case measure => simp [intOf]; omega
    · have hil : (mulR A b).take i = mulR A b := List.take_of_length_le (by rw [mulR_len]; omega)
      have hii : ¬ ((i : Int) < (A.length : Int)) := by omega
      rw [hil] at HO
      go_wp2_with fail
      go_ret
      exact ⟨_, rfl, ⟨HO.out.mono BB.out.size, fun z hz => in64_num (mulR_nums A b z hz)⟩, BB.out.trans (HBQ.out.mono BB.out.size)⟩
/-- the matrix times the stage weights -/
theorem mulR_st {A : List (List Int)} {B : List Int} {s p : Nat} (h : SqT A B s) (h0 : 0 < p) : mulR A (stL A s p) = apL A s p := by
  refine List.ext_getElem? fun i => ?_
  by_cases hi : i < s
  · have hr : A[i]? = some (A[i]'(by rw [h.la]; exact hi)) := List.getElem?_eq_getElem _
    rw [mulR_get hr, apL_get A s p hi, ← row_ap A s i h0]
    unfold dtZ
    have hl : (A[i]'(by rw [h.la]; exact hi)).length = s := (h.rows _ (List.getElem_mem _)).2
    rw [hl]
    congr 1
    have : sR s (dtF (A[i]'(by rw [h.la]; exact hi)) (stL A s p)) = sR s (fun k => fT A i k * (stL A s p).getD k 0) := sR_congr fun k hk => by
      unfold dtF fT
      rw [List.getD_eq_getElem?_getD (l := A), hr]
      rfl
    rw [this]
  · rw [List.getElem?_eq_none (by rw [mulR_len, h.la]; omega), List.getElem?_eq_none (by unfold apL; simp; omega)]
theorem stL_len (A : List (List Int)) (s p : Nat) : (stL A s p).length = s := by simp [stL]
theorem stB_len (A : List (List Int)) (s : Nat) (qs : List Nat) : (stB A s qs).length = s := by simp [stB]
theorem apL_len (A : List (List Int)) (s p : Nat) : (apL A s p).length = s := by simp [apL]
theorem stL_nums (A : List (List Int)) (s p : Nat) : Nums (stL A s p) := by
  intro z hz
  obtain ⟨i, -, rfl⟩ := List.mem_map.1 hz
  show 0 ≤ wt s (fT A) zeroV i p % 10007 ∧ wt s (fT A) zeroV i p % 10007 ≤ 10006
  omega
/-- the stage weights while a branch is multiplied in: the first i stages have it -/
def mxL (A : List (List Int)) (s : Nat) (qs : List Nat) (q i : Nat) : List Int := (stB A s (qs ++ [q])).take i ++ (stB A s qs).drop i
theorem mxL_len (A : List (List Int)) (s : Nat) (qs : List Nat) (q i : Nat) (hi : i ≤ s) : (mxL A s qs q i).length = s := by
  unfold mxL
  rw [List.length_append, List.length_take, List.length_drop, stB_len, stB_len]
  omega
theorem mxL_get (A : List (List Int)) (s : Nat) (qs : List Nat) (q : Nat) {i : Nat} (hi : i < s) : (mxL A s qs q i)[i]? = some (pz (uV s (fT A) i) qs % 10007) := by
  unfold mxL
  rw [List.getElem?_append_right (by rw [List.length_take]; omega), List.length_take, stB_len, Nat.min_eq_left (by omega), Nat.sub_self, List.getElem?_drop, Nat.add_zero]
  exact stB_get A s qs hi
theorem mxL_step (A : List (List Int)) (s : Nat) (qs : List Nat) (q : Nat) {i : Nat} (hi : i < s) : (mxL A s qs q i).set i (pz (uV s (fT A) i) qs % 10007 * (uV s (fT A) i q % 10007) % 10007) = mxL A s qs q (i + 1) := by
  rw [stB_step]
  refine List.ext_getElem? fun k => ?_
  have hl := mxL_len A s qs q i (by omega)
  rw [List.getElem?_set]
  unfold mxL at hl ⊢
  by_cases hki : i = k
  · subst hki
    rw [if_pos rfl, if_pos (by rw [hl]; exact hi), List.getElem?_append_left (by rw [List.length_take, stB_len]; omega), List.getElem?_take_of_lt (by omega), stB_get A s _ hi]
  · rw [if_neg hki]
    by_cases hlt : k < i
    · rw [List.getElem?_append_left (by rw [List.length_take, stB_len]; omega), List.getElem?_append_left (by rw [List.length_take, stB_len]; omega), List.getElem?_take_of_lt hlt, List.getElem?_take_of_lt (by omega)]
    · rw [List.getElem?_append_right (by rw [List.length_take, stB_len]; omega), List.getElem?_append_right (by rw [List.length_take, stB_len]; omega), List.length_take, List.length_take, stB_len, List.getElem?_drop, List.getElem?_drop]
      congr 1
      omega
theorem mxL_zero (A : List (List Int)) (s : Nat) (qs : List Nat) (q : Nat) : mxL A s qs q 0 = stB A s qs := by simp [mxL]
theorem mxL_full (A : List (List Int)) (s : Nat) (qs : List Nat) (q : Nat) : mxL A s qs q s = stB A s (qs ++ [q]) := by
  unfold mxL
  rw [List.take_of_length_le (by rw [stB_len]; omega), List.drop_eq_nil_of_le (by rw [stB_len]; omega), List.append_nil]
end Go.Proofs.Ytnlaoainhlfemaa

set_option maxRecDepth 100000
set_option linter.unusedVariables false
set_option linter.unusedSimpArgs false
namespace Go.Proofs.Ytnlaoainhlfemaa
open Go.RowKit

def cN (A : List (List Int)) (i : Nat) : Int := (nodesOf A).getD i 0
theorem sR_getD : ∀ r : List Int, sR r.length (fun k => r.getD k 0) = sumF id r
  | [] => rfl
  | x :: r => by
    rw [List.length_cons, sR_first]
    have h := sR_getD r
    show x + sR r.length (fun k => r.getD k 0) = id x + sumF id r
    rw [h]; rfl
theorem cN_bd (A : List (List Int)) (i : Nat) : 0 ≤ cN A i ∧ cN A i ≤ 10006 := getD_bd (nodesOf_nums A) i
theorem cN_is {A : List (List Int)} {B : List Int} {s i : Nat} (h : SqT A B s) (hi : i < s) : sR s (fun k => fT A i k) % 10007 = cN A i % 10007 := by
  have e : cN A i = nodeOf (A.getD i []) := getD_mapT nodeOf (by rw [h.la]; exact hi) [] 0
  have g := sR_getD (A.getD i [])
  rw [(h.row hi).2] at g
  rw [e]
  unfold nodeOf fT
  rw [g, Int.emod_emod_of_dvd _ (Int.dvd_refl _)]
theorem pw_at (c : Int) (e : Nat) (b : Int) : b * pw c e % 10007 % 10007 = b * c ^ e % 10007 := by
  unfold pw
  rw [Int.emod_emod_of_dvd _ (Int.dvd_refl _)]
  exact mulm rfl (Int.emod_emod_of_dvd _ (Int.dvd_refl _))
theorem dec_congr {p q : Prop} [Decidable p] [Decidable q] (h : p ↔ q) : decide p = decide q := by
  by_cases hp : p
  · rw [decide_eq_true hp, decide_eq_true (h.1 hp)]
  · rw [decide_eq_false hp, decide_eq_false (fun hq => hp (h.2 hq))]
/-! ### B -/
def wE (A : List (List Int)) (B : List Int) (k i : Nat) : Int := fB B i * pw (cN A i) (k - 1) % 10007
def asB (A : List (List Int)) (B : List Int) (k : Nat) : Bool := decide (sR B.length (wE A B k) * (k : Int) % 10007 = 1)
theorem wE_bd (A : List (List Int)) (B : List Int) (k i : Nat) : 0 ≤ wE A B k i ∧ wE A B k i ≤ 10006 := by unfold wE; omega
theorem asB_is (A : List (List Int)) (B : List Int) (k : Nat) : asB A B k = mB B.length (fB B) (cN A) k := by
  unfold asB mB
  refine dec_congr ?_
  have e : sR B.length (wE A B k) % 10007 = sR B.length (fun i => fB B i * cN A i ^ (k - 1)) % 10007 := sR_mod fun i hi => pw_at _ _ _
  rw [Int.mul_comm, mulm (a := (k : Int)) (c := (k : Int)) rfl e]
/-! ### C -/
def pwL (A : List (List Int)) (e : Nat) : List Int := (nodesOf A).map fun c => pw c e
theorem pwL_len (A : List (List Int)) (e : Nat) : (pwL A e).length = A.length := by unfold pwL; rw [List.length_map, nodesOf_len]
theorem pwL_nums (A : List (List Int)) (e : Nat) : Nums (pwL A e) := by
  intro z hz
  obtain ⟨c, -, rfl⟩ := List.mem_map.1 hz
  exact pw_bd c e
theorem pwL_get {A : List (List Int)} {i : Nat} (hi : i < A.length) (e : Nat) : (pwL A e).getD i 0 = pw (cN A i) e := getD_mapT (fun c => pw c e) (by rw [nodesOf_len]; exact hi) 0 0
def asC (A : List (List Int)) (k i : Nat) : Bool := decide (dtZ (A.getD i []) (pwL A (k - 1)) * (k : Int) % 10007 = pw (cN A i) k)
theorem asC_is {A : List (List Int)} {B : List Int} {s i : Nat} (h : SqT A B s) (hi : i < s) (k : Nat) : asC A k i = decide (((k : Int) * sR s (fun j => fT A i j * cN A j ^ (k - 1))) % 10007 = cN A i ^ k % 10007) := by
  unfold asC
  refine dec_congr ?_
  have e : dtZ (A.getD i []) (pwL A (k - 1)) % 10007 = sR s (fun j => fT A i j * cN A j ^ (k - 1)) % 10007 := by
    unfold dtZ
    rw [Int.emod_emod_of_dvd _ (Int.dvd_refl _), (h.row hi).2]
    refine sR_mod fun j hj => ?_
    unfold dtF
    rw [pwL_get (by rw [h.la]; exact hj)]
    unfold pw
    exact mulm rfl (Int.emod_emod_of_dvd _ (Int.dvd_refl _))
  rw [Int.mul_comm, mulm (a := (k : Int)) (c := (k : Int)) rfl e]
  rfl
def asCs (A : List (List Int)) (s k : Nat) : Bool := (List.range s).all fun i => asC A k i
theorem all_congr {s : Nat} {f g : Nat → Bool} (h : ∀ i, i < s → f i = g i) : (List.range s).all f = (List.range s).all g := by
  rw [Bool.eq_iff_iff, List.all_eq_true, List.all_eq_true]
  exact ⟨fun a x hx => by rw [← h x (List.mem_range.1 hx)]; exact a x hx, fun a x hx => by rw [h x (List.mem_range.1 hx)]; exact a x hx⟩
theorem asCs_is {A : List (List Int)} {B : List Int} {s : Nat} (h : SqT A B s) (k : Nat) : asCs A s k = mC s (fT A) (cN A) k := all_congr fun i hi => asC_is h hi k
/-! ### D -/
def dE (A : List (List Int)) (B : List Int) (k j i : Nat) : Int := wE A B k i * fT A i j % 10007
theorem dE_bd (A : List (List Int)) (B : List Int) (k j i : Nat) : 0 ≤ dE A B k j i ∧ dE A B k j i ≤ 10006 := by unfold dE; omega
def asD (A : List (List Int)) (B : List Int) (k j : Nat) : Bool := decide (sR B.length (dE A B k j) * (k : Int) % 10007 = fB B j * ((1 - pw (cN A j) k) % 10007) % 10007)
theorem dE_mod (A : List (List Int)) (B : List Int) (k j i : Nat) : dE A B k j i % 10007 = fB B i * cN A i ^ (k - 1) * fT A i j % 10007 := by
  unfold dE
  rw [Int.emod_emod_of_dvd _ (Int.dvd_refl _)]
  exact mulm (pw_at _ _ _) rfl
theorem one_pw (c : Int) (k : Nat) (b : Int) : b * ((1 - pw c k) % 10007) % 10007 = b * (1 - c ^ k) % 10007 := mulm rfl (by unfold pw; omega)
theorem asD_is {A : List (List Int)} {B : List Int} (k j : Nat) : asD A B k j = decide (((k : Int) * sR B.length (fun i => fB B i * cN A i ^ (k - 1) * fT A i j)) % 10007 = fB B j * (1 - cN A j ^ k) % 10007) := by
  unfold asD
  refine dec_congr ?_
  have e : sR B.length (dE A B k j) % 10007 = sR B.length (fun i => fB B i * cN A i ^ (k - 1) * fT A i j) % 10007 := sR_mod fun i hi => dE_mod A B k j i
  rw [Int.mul_comm, mulm (a := (k : Int)) (c := (k : Int)) rfl e, one_pw]
def asDs (A : List (List Int)) (B : List Int) (k : Nat) : Bool := (List.range B.length).all fun j => asD A B k j
theorem asDs_is (A : List (List Int)) (B : List Int) (k : Nat) : asDs A B k = mD B.length (fT A) (fB B) (cN A) k := all_congr fun j hj => asD_is k j
/-! ### all three -/
/-- the test of a kind -/
def asM (A : List (List Int)) (B : List Int) (kind : Int) (k : Nat) : Bool := if kind = 0 then asB A B k else if kind = 1 then asCs A B.length k else asDs A B k
/-- up to which number it holds -/
def oM (A : List (List Int)) (B : List Int) (kind : Int) : Nat := cndO (asM A B kind)
theorem oM_le (A : List (List Int)) (B : List Int) (kind : Int) : oM A B kind ≤ 16 := cndO_le _
theorem oM_hit {A : List (List Int)} {B : List Int} {kind : Int} {k : Nat} (h1 : 1 ≤ k) (h : ∀ j, 0 < j → j < k → asM A B kind j = true) (hk : k ≤ 16) (hf : asM A B kind k = false) : oM A B kind = k - 1 :=
  cndO_is (by omega) (fun j h0 hj => h j h0 (by omega)) (.inr (by rw [show k - 1 + 1 = k by omega]; exact hf))
theorem oM_miss {A : List (List Int)} {B : List Int} {kind : Int} (h : ∀ j, 0 < j → j < 17 → asM A B kind j = true) : oM A B kind = 16 := cndO_is (Nat.le_refl _) (fun j h0 hj => h j h0 (by omega)) (.inl rfl)
def impM (A : List (List Int)) (B : List Int) : Nat := impO (oM A B 0) (oM A B 1) (oM A B 2)
/-- the order lies between the implied one and that of the quadrature -/
theorem assum_T {A : List (List Int)} {B : List Int} (h : SqT A B B.length) : ((impM A B : Nat) : Int) ≤ agZ (chT A B) EX ∧ agZ (chT A B) EX ≤ ((oM A B 0 : Nat) : Int) := by
  have e0 : oM A B 0 = cndO (mB B.length (fB B) (cN A)) := congrArg cndO (funext fun k => by unfold asM; rw [if_pos rfl]; exact asB_is A B k)
  have e1 : oM A B 1 = cndO (mC B.length (fT A) (cN A)) := congrArg cndO (funext fun k => by unfold asM; rw [if_neg (by omega), if_pos rfl]; exact asCs_is h k)
  have e2 : oM A B 2 = cndO (mD B.length (fT A) (fB B) (cN A)) := congrArg cndO (funext fun k => by unfold asM; rw [if_neg (by omega), if_neg (by omega)]; exact asDs_is A B k)
  unfold impM
  rw [e0, e1, e2]
  exact assum fun i hi => cN_is h hi
/-! ### the reference -/
/-- the left side of the reference's condition -/
def lE (A : List (List Int)) (B : List Int) (kind : Int) (k i j : Nat) : Int := if kind = 0 then fB B j * pw (cN A j) (k - 1) % 10007 else if kind = 1 then fT A i j * pw (cN A j) (k - 1) % 10007 else (fB B j * pw (cN A j) (k - 1) % 10007) * fT A j i % 10007
def lR (A : List (List Int)) (B : List Int) (kind : Int) (k i : Nat) : Int := if kind = 0 then pw k 10005 else if kind = 1 then pw k 10005 * pw (cN A i) k % 10007 else pw k 10005 * (fB B i * ((1 - pw (cN A i) k) % 10007) % 10007) % 10007
def lS (A : List (List Int)) (B : List Int) (kind : Int) (k i : Nat) : Int := (sR B.length (lE A B kind k i) % 10007 - lR A B kind k i) % 10007
theorem rh_zero {k : Nat} (h1 : 1 ≤ k) (h : k ≤ 39) {X R : Int} : (X % 10007 - pw (k : Int) 10005 * R % 10007) % 10007 = 0 ↔ (k : Int) * X % 10007 = R % 10007 := by
  obtain ⟨n, rfl⟩ : ∃ n, k = n + 1 := ⟨k - 1, by omega⟩
  have hr := rh_is (show n < 40 by omega)
  have e : pw ((n + 1 : Nat) : Int) 10005 = rh n := by unfold rh; congr 1
  rw [e]
  have a1 : ∀ x : Int, rh n * (((n : Int) + 1) * x) % 10007 = x % 10007 := fun x => by
    rw [← Int.mul_assoc, Int.mul_comm (rh n), Int.mul_emod, hr, Int.one_mul, Int.emod_emod_of_dvd _ (Int.dvd_refl _)]
  have a2 : ∀ x : Int, ((n : Int) + 1) * (rh n * x) % 10007 = x % 10007 := fun x => by
    rw [← Int.mul_assoc, Int.mul_emod, hr, Int.one_mul, Int.emod_emod_of_dvd _ (Int.dvd_refl _)]
  rw [show ((n + 1 : Nat) : Int) = (n : Int) + 1 by omega]
  constructor
  · intro h0
    have hx : X % 10007 = rh n * R % 10007 := by omega
    rw [mulm (a := (n : Int) + 1) (c := (n : Int) + 1) rfl hx, a2]
  · intro h0
    have hx : X % 10007 = rh n * R % 10007 := by
      rw [← a1 X]
      exact mulm rfl h0
    omega
theorem lS_zero {A : List (List Int)} {B : List Int} (h : SqT A B B.length) {kind : Int} {k i : Nat} (h1 : 1 ≤ k) (hk : k ≤ 39) (hi : i < B.length) : lS A B kind k i = 0 ↔ (if kind = 0 then asB A B k else if kind = 1 then asC A k i else asD A B k i) = true := by
  unfold lS lR
  by_cases k0 : kind = 0
  · rw [if_pos k0, if_pos k0, asB_is]
    unfold mB
    rw [decide_eq_true_eq]
    have e : sR B.length (lE A B kind k i) % 10007 = sR B.length (fun j => fB B j * cN A j ^ (k - 1)) % 10007 := sR_mod fun j hj => by unfold lE; rw [if_pos k0]; exact pw_at _ _ _
    rw [e, show pw (k : Int) 10005 = pw (k : Int) 10005 * 1 % 10007 by rw [Int.mul_one, pw_self], rh_zero h1 hk]
    rfl
  · rw [if_neg k0, if_neg k0]
    by_cases k1 : kind = 1
    · rw [if_pos k1, if_pos k1, asC_is h hi, decide_eq_true_eq]
      have e : sR B.length (lE A B kind k i) % 10007 = sR B.length (fun j => fT A i j * cN A j ^ (k - 1)) % 10007 := sR_mod fun j hj => by unfold lE; rw [if_neg k0, if_pos k1]; exact pw_at _ _ _
      rw [e, rh_zero h1 hk, pw_self]
      rfl
    · rw [if_neg k1, if_neg k1, asD_is, decide_eq_true_eq]
      have e : sR B.length (lE A B kind k i) % 10007 = sR B.length (fun j => fB B j * cN A j ^ (k - 1) * fT A j i) % 10007 := sR_mod fun j hj => by
        unfold lE; rw [if_neg k0, if_neg k1, Int.emod_emod_of_dvd _ (Int.dvd_refl _)]
        exact mulm (pw_at _ _ _) rfl
      rw [e, rh_zero h1 hk, Int.emod_emod_of_dvd _ (Int.dvd_refl _), one_pw]
/-- a round of the reference's order: all stages of a number -/
theorem lS_all {A : List (List Int)} {B : List Int} (h : SqT A B B.length) (hs : 1 ≤ B.length) {kind : Int} {k : Nat} (h1 : 1 ≤ k) (hk : k ≤ 39) (ha : ∀ i, i < B.length → lS A B kind k i = 0) : asM A B kind k = true := by
  unfold asM
  by_cases k0 : kind = 0
  · have := (lS_zero h h1 hk (i := 0) (by omega)).1 (ha 0 (by omega))
    rw [if_pos k0] at this
    rw [if_pos k0]; exact this
  · rw [if_neg k0]
    by_cases k1 : kind = 1
    · rw [if_pos k1]
      refine List.all_eq_true.2 fun i hi => ?_
      have := (lS_zero h h1 hk (List.mem_range.1 hi)).1 (ha i (List.mem_range.1 hi))
      rw [if_neg k0, if_pos k1] at this
      exact this
    · rw [if_neg k1]
      refine List.all_eq_true.2 fun i hi => ?_
      have := (lS_zero h h1 hk (List.mem_range.1 hi)).1 (ha i (List.mem_range.1 hi))
      rw [if_neg k0, if_neg k1] at this
      exact this
theorem lS_hit {A : List (List Int)} {B : List Int} (h : SqT A B B.length) {kind : Int} {k i : Nat} (h1 : 1 ≤ k) (hk : k ≤ 39) (hi : i < B.length) (ha : lS A B kind k i ≠ 0) : asM A B kind k = false := by
  cases hm : asM A B kind k with
  | false => rfl
  | true =>
    refine absurd ((lS_zero h h1 hk hi).2 ?_) ha
    unfold asM at hm
    by_cases k0 : kind = 0
    · rw [if_pos k0] at hm ⊢; exact hm
    · rw [if_neg k0] at hm ⊢
      by_cases k1 : kind = 1
      · rw [if_pos k1] at hm ⊢
        exact (List.all_eq_true.1 hm) i (List.mem_range.2 hi)
      · rw [if_neg k1] at hm ⊢
        exact (List.all_eq_true.1 hm) i (List.mem_range.2 hi)
end Go.Proofs.Ytnlaoainhlfemaa

/- The laws' marking and holding, at lists of lists and at tableaus. -/
set_option linter.unusedVariables false
set_option linter.unusedSimpArgs false
namespace Go.Proofs.Ytnlaoainhlfemaa
open Go.RowKit

theorem RowsOwn.set {w w' : World} {B C : Nat} {e : TypeId} {vs : List Value} {xss : List (List Int)} {j : Nat} {u : Value} {zs : List Int} (h : RowsOwn w B C e vs xss) (hu : vs[j]? = some u) (hg : w.grownBy w' u.ownBlock) (hn : OwnInts w' B e u zs) : RowsOwn w' B C e vs (xss.set j zs) := by
  obtain ⟨h1, h2, h3⟩ := h
  refine ⟨by simp [h1], fun k u' zs' hu' hz' => ?_, h3⟩
  have hj := (List.getElem?_eq_some_iff.1 hu).1
  by_cases hk : k = j
  · subst hk
    rw [hu] at hu'
    obtain rfl : u = u' := by simpa using hu'
    have hz : xss[k]? = some (xss[k]'(by omega)) := List.getElem?_eq_getElem _
    rw [List.getElem?_set_self (by omega)] at hz'
    obtain rfl : zs = zs' := by simpa using hz'
    exact ⟨hn, (h2 k u _ hu hz).2⟩
  · rw [List.getElem?_set_ne (by omega)] at hz'
    have ho := h2 k u' zs' hu' hz'
    have hap : Apart u' u := by
      by_cases hlt : k < j
      · exact h3 k j u' u hlt hu' hu
      · exact (h3 j k u u' (by omega) hu hu').symm
    exact ⟨ho.1.kept hg hap, ho.2⟩

/-- no block has turned but those of the values vs -/
def Far (vs : List Value) (w w' : World) : Prop := ∀ b, b < w.heap.size → (∀ (i : Nat) (u : Value), vs[i]? = some u → u.ownBlock ≠ some b) → w'.heap[b]? = w.heap[b]?
theorem Far.refl (vs : List Value) (w : World) : Far vs w w := fun _ _ _ => rfl
theorem Far.grown {vs : List Value} {w w1 w2 : World} {j : Nat} {u : Value} (h : Far vs w w1) (hs : w.heap.size ≤ w1.heap.size) (hu : vs[j]? = some u) (hg : w1.grownBy w2 u.ownBlock) : Far vs w w2 :=
  fun b hb hn => (hg.block b (Nat.lt_of_lt_of_le hb hs) (fun e => hn j u hu e.symm)).trans (h b hb hn)
theorem Far.kept {vs : List Value} {w w' : World} {B C : Nat} {e : TypeId} {v : Value} {zs : List Int} (h : Far vs w w') (ho : OI w B C e v zs) (ha : ∀ (i : Nat) (u : Value), vs[i]? = some u → Apart u v) : OI w' B C e v zs :=
  ⟨⟨ho.1.1.of_block fun b hb => h b (ho.1.1.lt b hb) (fun i u hu e => (ha i u hu).elim (fun h1 => by rw [h1] at e; cases e) (fun h1 => h1 (e.trans hb.symm))), ho.1.2⟩, ho.2⟩

end Go.Proofs.Ytnlaoainhlfemaa

set_option linter.unusedVariables false
set_option linter.unusedSimpArgs false
namespace Go.Proofs.Ytnlaoainhlfemaa
open Go.RowKit

theorem IsTab.numTab {A : List (List Int)} {Bs : List Int} (h : IsTab A Bs) : NumTab A Bs :=
  ⟨by have := h.len; have := h.hi; omega, by have := h.hi; omega, fun zs hz => ⟨nums_iff.1 (h.row zs hz).2, by have := (h.row zs hz).1; have := h.hi; omega⟩, nums_iff.1 h.num⟩
theorem OT.nil (w : World) (B C : Nat) : OT w B C (.agg #[.slice none 0 0, .slice none 0 0]) [] [] :=
  ⟨_, _, [], rfl, Own.nil _ _ _, fun b hb => by simp [Value.ownBlock] at hb, RowsOwn.nil _ _ _ _, OI.nil _ _ _ _, fun k u hu => by simp at hu⟩

end Go.Proofs.Ytnlaoainhlfemaa

