/- Plain: a list of levels with at most eight nodes, as natural numbers; it is one of finitely many, and each has a canonical list. | Walk: l16Parent of the reference. | Walk: parentsOf of the program. | slices.SortFunc at lists of numbers: laid. | A list of one's own that the library has sorted. | slices.SortFunc with 'slices.Compare(b, a)', at lists of one's own: the lists in descending order. | Walk: canonical of the program. -/
import Derived.Test.YtbjeibcombjfgaaQf6
import Derived.Shelf.SlSortCmp.Whole1
import Derived.Shelf.SlSortCmp.NoneTotal
import Derived.Shelf.SlGeneric
import Derived.Ground.SlsfProg
import Derived.Shelf.GgSortFunc.Insertion
import Derived.Test.YtbjeibcombjfgaaQf4
set_option linter.unusedVariables false
set_option linter.unusedSimpArgs false
set_option maxRecDepth 100000
namespace Go.Proofs.Ytbjeibcombjfgaa

theorem isT_parts {zs : List Int} (h : isT zs = true) : zs.length ≤ 8 ∧ 0 < zs.length ∧ zs.getD 0 0 = 0 ∧ ∀ k, k < zs.length → lvlAt zs k = true := by
  unfold isT lvlB chainZ at h
  simp only [Bool.and_eq_true, decide_eq_true_eq, List.all_eq_true, List.mem_range] at h
  exact ⟨h.1, h.2.1, h.2.2.1, h.2.2.2⟩
theorem isT_tail {zs : List Int} (h8 : zs.length ≤ 8) (hk : ∀ k, k < zs.length → lvlAt zs k = true) : ∀ (d : List Int) (k pn : Nat), zs.drop (k + 1) = d → k < zs.length → zs.getD k 0 = (pn : Int) → pn ≤ k → ∃ n, d = up n ∧ lvlF pn n = true
  | [], k, pn, _, _, _, _ => ⟨[], rfl, rfl⟩
  | x :: d, k, pn, hd, hkl, hp, hpn => by
    have hlt : k + 1 < zs.length := by
      have := congrArg List.length hd
      simp at this
      omega
    have hx : zs[k + 1]? = some x := by
      have : (zs.drop (k + 1))[0]? = some x := by rw [hd]; rfl
      rwa [List.getElem?_drop] at this
    have hp' : zs[k]? = some ((pn : Int)) := by
      rw [List.getElem?_eq_getElem (by omega)]
      rw [← hp, List.getD, List.getElem?_eq_getElem (by omega)]
      rfl
    have hs := hk (k + 1) hlt
    rw [lvlAt_succ hp' hx] at hs
    unfold stepOk at hs
    have hw : Go.RowKit.wrap64 ((pn : Int) + 1) = (pn : Int) + 1 := by unfold Go.RowKit.wrap64; omega
    rw [hw, inR_iff] at hs
    have hd2 : zs.drop (k + 1 + 1) = d := by rw [← List.drop_drop, hd]; rfl
    obtain ⟨n, h1, h2⟩ := isT_tail h8 hk d (k + 1) x.toNat hd2 hlt (by rw [List.getD, hx]; simp; omega) (by omega)
    refine ⟨x.toNat :: n, by rw [h1, up_cons]; congr 1; omega, ?_⟩
    rw [lvlF, Nat.ble_eq_true_of_le (by omega), Nat.ble_eq_true_of_le (by omega)]
    exact h2
theorem isT_up {zs : List Int} (h : isT zs = true) : ∃ n : List Nat, zs = up n ∧ lvl n = true ∧ n.length ≤ 8 := by
  obtain ⟨h8, h0, hz, hk⟩ := isT_parts h
  cases zs with
  | nil => simp at h0
  | cons a d =>
    have ha : a = 0 := by simpa using hz
    subst ha
    obtain ⟨n, h1, h2⟩ := isT_tail h8 hk d 0 0 rfl (by simp) rfl (Nat.le_refl _)
    refine ⟨0 :: n, by rw [h1]; rfl, by rw [lvl]; exact h2, ?_⟩
    have := congrArg List.length h1
    rw [up_len] at this
    simp at h8 ⊢
    omega

theorem mem_grow1 {t : List Nat} {last l : Nat} : ∀ {b : Nat}, 1 ≤ l → l ≤ b → t ++ [l] ∈ grow1 t last b
  | 0, h1, h2 => by omega
  | b + 1, h1, h2 => by
    rw [grow1]
    by_cases h : l = b + 1
    · subst h; simp
    · exact List.mem_cons_of_mem _ (mem_grow1 h1 (by omega))
theorem lastN_cons (a b : Nat) (t : List Nat) : lastN (a :: b :: t) = lastN (b :: t) := rfl
theorem lvlF_snoc : ∀ (p : Nat) (t : List Nat) (l : Nat), lvlF p (t ++ [l]) = true → lvlF p t = true ∧ 1 ≤ l ∧ l ≤ lastN (p :: t) + 1
  | p, [], l, h => by
    rw [List.nil_append, lvlF] at h
    cases h1 : Nat.ble 1 l with
    | false => rw [h1] at h; cases h
    | true =>
      cases h2 : Nat.ble l (p + 1) with
      | false => rw [h1, h2] at h; cases h
      | true => exact ⟨rfl, Nat.le_of_ble_eq_true h1, Nat.le_of_ble_eq_true h2⟩
  | p, x :: t, l, h => by
    rw [List.cons_append, lvlF] at h
    rw [lvlF, lastN_cons]
    cases h1 : Nat.ble 1 x with
    | false => rw [h1] at h; cases h
    | true =>
      cases h2 : Nat.ble x (p + 1) with
      | false => rw [h1, h2] at h; cases h
      | true =>
        rw [h1, h2] at h
        exact lvlF_snoc x t l h
theorem lvl_snoc {t : List Nat} {l : Nat} (ht : t ≠ []) (h : lvl (t ++ [l]) = true) : lvl t = true ∧ 1 ≤ l ∧ l ≤ lastN t + 1 := by
  cases t with
  | nil => exact absurd rfl ht
  | cons a t =>
    rw [List.cons_append, lvl] at h
    rw [lvl]
    cases h1 : Nat.beq a 0 with
    | false => rw [h1] at h; cases h
    | true =>
      rw [h1] at h
      have := Nat.eq_of_beq_eq_true h1
      subst this
      exact lvlF_snoc 0 t l h
theorem mem_levs : ∀ (m : Nat) (t : List Nat), t.length = m + 1 → lvl t = true → t ∈ levs m
  | 0, t, hl, h => by
    cases t with
    | nil => simp at hl
    | cons a t =>
      have : t = [] := List.eq_nil_of_length_eq_zero (by simpa using hl)
      subst this
      rw [lvl] at h
      cases h1 : Nat.beq a 0 with
      | false => rw [h1] at h; cases h
      | true => have := Nat.eq_of_beq_eq_true h1; subst this; simp [levs]
  | m + 1, t, hl, h => by
    have hne : t ≠ [] := fun e => by rw [e] at hl; simp at hl
    obtain ⟨s, l, rfl⟩ : ∃ s l, t = s ++ [l] := ⟨t.dropLast, t.getLast hne, (List.dropLast_concat_getLast hne).symm⟩
    have hsl : s.length = m + 1 := by simpa using hl
    obtain ⟨h1, h2, h3⟩ := lvl_snoc (fun e => by rw [e] at hsl; simp at hsl) h
    rw [levs, List.mem_flatMap]
    exact ⟨s, mem_levs m s hsl h1, mem_grow1 h2 h3⟩

/-- what holds of all the lists of at most eight levels -/
theorem lev8 {p : List Nat → Bool} (h : (List.range 8).all (fun m => (levs m).all p) = true) {t : List Nat} (ht : lvl t = true) (hl : t.length ≤ 8) : p t = true := by
  have hpos : 0 < t.length := by cases t with
    | nil => cases ht
    | cons a t => simp
  rw [List.all_eq_true] at h
  have h1 := h (t.length - 1) (by simp; omega)
  rw [List.all_eq_true] at h1
  exact h1 t (mem_levs _ _ (by omega) ht)
theorem canO_8 {t : List Nat} (ht : lvl t = true) (hl : t.length ≤ 8) : ∃ r, canO 9 t = some r ∧ lvl r = true ∧ canO 9 r = some r := by
  have h := lev8 (p := fun t => match canO 9 t with | none => false | some r => lvl r && (match canO 9 r with | none => false | some r' => eqN r r')) (by decide +kernel) ht hl
  cases hr : canO 9 t with
  | none => rw [hr] at h; cases h
  | some r =>
    rw [hr] at h
    simp only [Bool.and_eq_true] at h
    refine ⟨r, rfl, h.1, ?_⟩
    have h2 := h.2
    cases hr2 : canO 9 r with
    | none => rw [hr2] at h2; cases h2
    | some r' =>
      rw [hr2] at h2
      rw [eqN_iff.1 h2]
end Go.Proofs.Ytbjeibcombjfgaa

set_option maxRecDepth 100000
set_option linter.unusedVariables false
set_option linter.unusedSimpArgs false
namespace Go.Proofs.Ytbjeibcombjfgaa
open Go.RowKit

set_option maxHeartbeats 2000000 in
theorem s_l16Parent (w : World) (v : Value) (t : List Nat) (i : Nat) (ha : Ints w v (up t)) (hi : i < t.length) (hl : ∀ l ∈ t, l ≤ 1000000) :
    Calls Try.prog 153 #[v, .int .i64 i] w fun e w' => e = .returned (.int .i64 ((parN t (t.getD i 0) i : Int) - 1)) ∧ ∃ n, w' = w.drewN n := by
  obtain ⟨A, c, rfl, l1, l2, h3⟩ := ha.open_
  rw [up_len] at l1 h3 ⊢
  obtain ⟨ad, zi, rfl, hzi, -, hci⟩ := h3 i hi
  obtain ⟨L, hL, hzL⟩ := up_getD hzi
  have hL6 := hl L (List.mem_of_getElem? hL)
  have HG := Lib.hid (show t.getD i 0 = L by simp [List.getD, hL])
  have H3 := Lib.hid h3
  have HLV := Lib.hid hl
  have hii : (i : Int) < (t.length : Int) := by omega
  have hi0 : (0 : Int) ≤ (i : Int) := by omega
  have hwz : IntKind.i64.wrap (zi - 1) = zi - 1 := IntWalk.i64_in _ (by omega)
  have hwi : IntKind.i64.wrap ((i : Int) - 1) = (i : Int) - 1 := IntWalk.i64_in _ (by omega)
  have HE := Lib.hid (show (parN t (t.getD i 0) i : Int) - 1 = (parN t L i : Int) - 1 by rw [HG.out])
  rw [HE.out]
  clear ha h3 hzi hL hl
  go_enter Try.func153, Try.ntmps153
  go_wp2_with fail
  go_loopw [5] (fun x wr => ∃ (m n : Nat), m ≤ i ∧ x = .int .i64 ((m : Int) - 1) ∧ Hid (parN t L m = parN t L i) ∧ wr = w.drewN n) (fun x _ => (intOf x + 1).toNat)
  case atStart => exact ⟨i, 0, Nat.le_refl _, rfl, rfl, rfl⟩
  case round =>
    obtain ⟨m, n, hm, rfl, HP, rfl⟩ := hrel
    cases m with
    | zero =>
      have h0 : ((0 : Nat) : Int) - 1 = -1 := rfl
      rw [h0]
      clear h0
      go_wp2_with fail
      go_ret
      refine ⟨?_, _, rfl⟩
      have hp := HP.out
      rw [← hp]
      rfl
    | succ p =>
      have h0 : ((p + 1 : Nat) : Int) - 1 = (p : Int) := by omega
      rw [h0]
      clear h0
      obtain ⟨ad', z, hae, hz, -, hc⟩ := H3.out p (by omega)
      injection hae with hae
      subst hae
      obtain ⟨P, hP, hzP⟩ := up_getD hz
      have HGP := Lib.hid (show t.getD p 0 = P by simp [List.getD, hP])
      have hP6 := HLV.out P (List.mem_of_getElem? hP)
      have hpi : (p : Int) < (t.length : Int) := by omega
      have hp0 : (0 : Int) ≤ (p : Int) := by omega
      have hwp : IntKind.i64.wrap ((p : Int) - 1) = (p : Int) - 1 := IntWalk.i64_in _ (by omega)
      clear hz hP
      by_cases hq : P + 1 = L
      · have hd : (z == zi - 1) = true := by rw [hzL, hzP]; simp; omega
        have HR := Lib.hid (show parN t L (p + 1) = p + 1 by rw [parN, HGP.out, hq, Nat.beq_refl]; rfl)
        clear hzP hq hzL
        go_wp2_with fail
        go_quiet (fail)
        go_wp2_with fail
        go_ret
        refine ⟨?_, _, World.drewN_drewN _ _ _⟩
        rw [← HP.out, HR.out]
        rw [show ((p + 1 : Nat) : Int) - 1 = (p : Int) by omega]
        rfl
      · have hd : (z == zi - 1) = false := by rw [hzL, hzP]; simp; omega
        have HR := Lib.hid (show parN t L (p + 1) = parN t L p by
          rw [parN, HGP.out]
          cases hb : Nat.beq (P + 1) L with
          | true => exact absurd (Nat.eq_of_beq_eq_true hb) hq
          | false => rfl)
        clear hzP hq hzL
        go_wp2_with fail
        go_quiet (fail)
        go_wp2_with fail
        go_roundw
        case rel => exact ⟨p, _, by omega, by first | rfl | go_num, by rw [← HR.out]; exact HP.out, by first | rfl | exact World.drewN_drewN _ _ _⟩
        case measure => first | (simp [intOf]; done) | (simp [intOf]; omega)
end Go.Proofs.Ytbjeibcombjfgaa

set_option maxRecDepth 100000
set_option linter.unusedVariables false
set_option linter.unusedSimpArgs false
namespace Go.Proofs.Ytbjeibcombjfgaa
open Go.RowKit

abbrev tN : TypeId := 3
theorem T_nat : ElemT Try.prog 44 3 (.int .i64 0) 8 := ⟨Try.underlying44, by kernel_rfl, rfl, by omega⟩

/-- the parents of the first j nodes, -1 for none -/
def pzTo (t : List Nat) (j : Nat) : List Int := (List.range j).map fun i => (parN t (t.getD i 0) i : Int) - 1
theorem pzTo_len (t : List Nat) (j : Nat) : (pzTo t j).length = j := by simp [pzTo]
theorem pzTo_succ (t : List Nat) (j : Nat) : pzTo t (j + 1) = pzTo t j ++ [(parN t (t.getD j 0) j : Int) - 1] := by simp [pzTo, List.range_succ]

set_option maxHeartbeats 2000000 in
theorem i_parentsOf (w : World) (v : Value) (t : List Nat) (ha : Ints w v (up t)) (hn : t.length ≤ 1000) (hl : ∀ l ∈ t, l ≤ 1000000) :
    Calls Try.prog 146 #[v] w fun e w' => ∃ x, e = .returned x ∧ OwnInts w' w.heap.size tN x (pzTo t t.length) ∧ Below w.heap.size w w' := by
  obtain ⟨A, c, rfl, l1, l2, h3⟩ := ha.open_
  rw [up_len] at l1 h3 ⊢
  have H3 := Lib.hid h3
  have HLV := Lib.hid hl
  have OL := Lib.hid (show OwnInts (w.alloc (.cells #[] tN)) w.heap.size tN (.slice (some ⟨w.heap.size, 0, none⟩) 0 0) [] from ⟨own_lit w tN [] (by simp [maxLen]), fun z hz => by simp at hz⟩)
  clear ha h3 hl
  go_enter Try.func146, Try.ntmps146
  go_wp2_with fail
  go_loopw [3, 10] (fun o x wr => ∃ j : Nat, j ≤ t.length ∧ x = .int .i64 j ∧ OwnInts wr w.heap.size tN o (pzTo t j) ∧ Below w.heap.size w wr) (fun _ x _ => t.length - (intOf x).toNat)
  case atStart => exact ⟨0, Nat.zero_le _, rfl, by simpa [pzTo] using OL.out, below1 _ _⟩
  case round =>
    obtain ⟨j, hj, rfl, ho, hb⟩ := hrel
    clear OL
    have HO := Lib.hid ho
    have HB := Lib.hid hb
    clear ho hb
    by_cases hlt : j < t.length
    · obtain ⟨ad, zi, rfl, hzi, -, hci0⟩ := H3.out j hlt
      have hci : wr.cell? (ad.add j) = some (.int .i64 zi) := by
        rw [HB.out.cell (by rw [block_add]; have := World.block_lt_of_cell? w _ hci0; rwa [block_add] at this)]; exact hci0
      obtain ⟨L, hL, hzL⟩ := up_getD hzi
      have hL6 := HLV.out L (List.mem_of_getElem? hL)
      have HG := Lib.hid (show t.getD j 0 = L by simp [List.getD, hL])
      have hji : (j : Int) < (t.length : Int) := by omega
      have hwz : IntKind.i64.wrap (zi - 1) = zi - 1 := IntWalk.i64_in _ (by omega)
      have hwi : IntKind.i64.wrap ((j : Int) - 1) = (j : Int) - 1 := IntWalk.i64_in _ (by omega)
      have HZL := Lib.hid hzL
      have HZB := Lib.hid (show (0 : Int) ≤ zi ∧ zi ≤ 1000000 by omega)
      clear hzi hL hci0 hzL hL6
      go_wp2_with fail
      obtain ⟨wo, rfl⟩ : ∃ wo : World, wo = wr := ⟨_, rfl⟩
      go_loopw [6] (fun x wi => ∃ m : Nat, m ≤ j ∧ x = .int .i64 ((m : Int) - 1) ∧ Hid (parN t L m = parN t L j) ∧ wo = wi) (fun x _ => (intOf x + 1).toNat)
      case atStart => exact ⟨j, Nat.le_refl _, rfl, rfl, rfl⟩
      case round =>
        obtain ⟨m, hm, rfl, HP, rfl⟩ := hrel
        cases m with
        | zero =>
          have h0 : ((0 : Nat) : Int) - 1 = -1 := rfl
          rw [h0]
          clear h0
          have HV := Lib.hid (show (parN t (t.getD j 0) j : Int) - 1 = -1 by rw [HG.out, ← HP.out]; rfl)
          have hv64 : In64 (-1) := by unfold In64; omega
          clear hm
          go_wp2_with (at_builtin; refine wpList_app1 T_nat HO.out.1 (by rw [ints_len, pzTo_len]; omega) HB.out.size (by rfl) rfl (by rfl) (by rfl) (by rfl) ?_; intro v1 w5 hown1 hgr1; have HN := Lib.hid hown1; have HB5 := Lib.hid (hgr1.below HB.out HB.out.size HO.out.1.ge); clear hown1 hgr1)
          go_roundw
          case rel =>
            refine ⟨j + 1, by omega, by go_num, ?_, HB5.out⟩
            rw [pzTo_succ, HV.out]
            exact ⟨by simpa [ints] using HN.out, fun y hy => by rcases List.mem_append.1 hy with hy | hy; exact HO.out.2 y hy; simp at hy; subst hy; exact hv64⟩
          case measure => simp [intOf]; omega
        | succ p =>
          have h0 : ((p + 1 : Nat) : Int) - 1 = (p : Int) := by omega
          rw [h0]
          clear h0
          obtain ⟨ad', z, hae, hz, -, hc0⟩ := H3.out p (by omega)
          injection hae with hae
          subst hae
          have hc : wo.cell? (ad.add p) = some (.int .i64 z) := by
            rw [HB.out.cell (by rw [block_add]; have := World.block_lt_of_cell? w _ hc0; rwa [block_add] at this)]; exact hc0
          obtain ⟨P, hP, hzP⟩ := up_getD hz
          have HGP := Lib.hid (show t.getD p 0 = P by simp [List.getD, hP])
          have hpi : (p : Int) < (t.length : Int) := by omega
          have hp0 : (0 : Int) ≤ (p : Int) := by omega
          have hwp : IntKind.i64.wrap ((p : Int) - 1) = (p : Int) - 1 := IntWalk.i64_in _ (by omega)
          by_cases hq : P + 1 = L
          · have hd : (z != zi - 1) = false := by rw [HZL.out, hzP]; simp; omega
            have HV := Lib.hid (show (parN t (t.getD j 0) j : Int) - 1 = (p : Int) by rw [HG.out, ← HP.out, parN, HGP.out, hq, Nat.beq_refl]; simp)
            have hv64 : In64 (p : Int) := by unfold In64; omega
            clear hzP hq hz hP hc0
            go_wp2_with (at_builtin; refine wpList_app1 T_nat HO.out.1 (by rw [ints_len, pzTo_len]; omega) HB.out.size (by rfl) rfl (by rfl) (by rfl) (by rfl) ?_; intro v1 w5 hown1 hgr1; have HN := Lib.hid hown1; have HB5 := Lib.hid (hgr1.below HB.out HB.out.size HO.out.1.ge); clear hown1 hgr1)
            go_roundw
            case rel =>
              refine ⟨j + 1, by omega, by go_num, ?_, HB5.out⟩
              rw [pzTo_succ, HV.out]
              exact ⟨by simpa [ints] using HN.out, fun y hy => by rcases List.mem_append.1 hy with hy | hy; exact HO.out.2 y hy; simp at hy; subst hy; exact hv64⟩
            case measure => simp [intOf]; omega
          · have hd : (z != zi - 1) = true := by rw [HZL.out, hzP]; simp; omega
            have HR := Lib.hid (show parN t L (p + 1) = parN t L p by
              rw [parN, HGP.out]
              cases hb : Nat.beq (P + 1) L with
              | true => exact absurd (Nat.eq_of_beq_eq_true hb) hq
              | false => rfl)
            clear hzP hq hz hP hc0
            go_wp2_with fail
            go_roundw
            case rel => exact ⟨p, by omega, by first | rfl | go_num, by rw [← HR.out]; exact HP.out, by first | rfl | trivial⟩
            case measure => first | (simp [intOf]; done) | (simp [intOf]; omega)
    · have : j = t.length := by omega
      subst this
      go_wp2_with fail
      go_ret
      exact ⟨_, rfl, HO.out, HB.out⟩
end Go.Proofs.Ytbjeibcombjfgaa

set_option maxRecDepth 100000
namespace Go.Proofs
open Go.Shelf Go.RowKit Go.Lib Go.Sort
def Try.lsort_ren : Go.Shelf.Ren := ⟨fun | 6 => 159 | 15 => 204 | 14 => 203 | 28 => 227 | 29 => 228 | 20 => 219 | 21 => 220 | 22 => 221 | 23 => 222 | 24 => 223 | 25 => 224 | 26 => 225 | 27 => 226 | 46 => 241 | 47 => 242 | 48 => 243 | 49 => 244 | 50 => 245 | 57 => 251 | n => n, fun | 22 => 24 | 24 => 25 | 25 => 130 | 3 => 3 | 39 => 105 | 0 => 0 | 53 => 174 | 55 => 64 | 4 => 4 | 46 => 168 | 45 => 167 | 50 => 139 | 5 => 5 | 9 => 9 | 66 => 181 | 70 => 185 | 76 => 191 | 77 => 192 | n => n, fun | n => n⟩
theorem Try.lsort : Go.Proofs.SlLaysF.n6 Try.prog Try.lsort_ren := {
  mixed := by kernel_rfl
  f6 := ⟨Try.f159.name, by decide, Try.func159.trans (congrArg some (by kernel_rfl))⟩
  f14 := ⟨Try.f203.name, by decide, Try.func203.trans (congrArg some (by kernel_rfl))⟩
  f15 := Try.func204.trans (congrArg some (by kernel_rfl))
  f20 := ⟨Try.f219.name, by decide, Try.func219.trans (congrArg some (by kernel_rfl))⟩
  f21 := ⟨Try.f220.name, by decide, Try.func220.trans (congrArg some (by kernel_rfl))⟩
  f22 := ⟨Try.f221.name, by decide, Try.func221.trans (congrArg some (by kernel_rfl))⟩
  f23 := ⟨Try.f222.name, by decide, Try.func222.trans (congrArg some (by kernel_rfl))⟩
  f24 := ⟨Try.f223.name, by decide, Try.func223.trans (congrArg some (by kernel_rfl))⟩
  f25 := ⟨Try.f224.name, by decide, Try.func224.trans (congrArg some (by kernel_rfl))⟩
  f26 := ⟨Try.f225.name, by decide, Try.func225.trans (congrArg some (by kernel_rfl))⟩
  f27 := ⟨Try.f226.name, by decide, Try.func226.trans (congrArg some (by kernel_rfl))⟩
  f28 := Try.func227.trans (congrArg some (by kernel_rfl))
  f29 := Try.func228.trans (congrArg some (by kernel_rfl))
  f46 := ⟨Try.f241.name, by decide, Try.func241.trans (congrArg some (by kernel_rfl))⟩
  f47 := Try.func242.trans (congrArg some (by kernel_rfl))
  f48 := Try.func243.trans (congrArg some (by kernel_rfl))
  f49 := ⟨Try.f244.name, by decide, Try.func244.trans (congrArg some (by kernel_rfl))⟩
  f50 := ⟨Try.f245.name, by decide, Try.func245.trans (congrArg some (by kernel_rfl))⟩
  f57 := ⟨Try.f251.name, by decide, Try.func251.trans (congrArg some (by kernel_rfl))⟩
  t0 := Try.underlying0
  a0 := Try.isAgg0
  z0 := Try.sizeOf0
  v0 := Try.zeroValue0
  t3 := Try.underlying3
  a3 := Try.isAgg3
  z3 := Try.sizeOf3
  v3 := Try.zeroValue3
  t4 := Try.underlying4
  a4 := Try.isAgg4
  z4 := Try.sizeOf4
  v4 := Try.zeroValue4
  t5 := Try.underlying5
  a5 := Try.isAgg5
  z5 := Try.sizeOf5
  v5 := Try.zeroValue5
  t9 := Try.underlying9
  a9 := Try.isAgg9
  z9 := Try.sizeOf9
  v9 := Try.zeroValue9
  t22 := Try.underlying24
  a22 := Try.isAgg24
  z22 := Try.sizeOf24
  v22 := Try.zeroValue24
  a24 := Try.isAgg25
  z24 := Try.sizeOf25
  t25 := Try.underlying130
  a25 := Try.isAgg130
  z25 := Try.sizeOf130
  v25 := Try.zeroValue130
  t39 := Try.underlying105
  a39 := Try.isAgg105
  z39 := Try.sizeOf105
  v39 := Try.zeroValue105
  t45 := Try.underlying167
  a45 := Try.isAgg167
  z45 := Try.sizeOf167
  v45 := Try.zeroValue167
  t46 := Try.underlying168
  a46 := Try.isAgg168
  z46 := Try.sizeOf168
  v46 := Try.zeroValue168
  t50 := Try.underlying139
  a50 := Try.isAgg139
  z50 := Try.sizeOf139
  v50 := Try.zeroValue139
  t53 := Try.underlying174
  a53 := Try.isAgg174
  z53 := Try.sizeOf174
  v53 := Try.zeroValue174
  t55 := Try.underlying64
  a55 := Try.isAgg64
  z55 := Try.sizeOf64
  v55 := Try.zeroValue64
  t66 := Try.underlying181
  a66 := Try.isAgg181
  z66 := Try.sizeOf181
  v66 := Try.zeroValue181
  t70 := Try.underlying185
  a70 := Try.isAgg185
  z70 := Try.sizeOf185
  v70 := Try.zeroValue185
  t76 := Try.underlying191
  a76 := Try.isAgg191
  z76 := Try.sizeOf191
  v76 := Try.zeroValue191
  t77 := Try.underlying192
  a77 := Try.isAgg192
  z77 := Try.sizeOf192
  v77 := Try.zeroValue192 }
end Go.Proofs

set_option maxRecDepth 100000
set_option linter.unusedVariables false
set_option linter.unusedSimpArgs false
namespace Go.Proofs.Ytbjeibcombjfgaa
open Go.RowKit Go.Sort Go.Shelf

section
variable {α : Type} [Inhabited α] {enc : α → Value} {w : World} {B g cap n : Nat} {e : TypeId} {d : List α} {os : Array Obj}
theorem holds_own (h : Own w B e (.slice (some ⟨g, 0, none⟩) d.length cap) (d.map enc)) : Holds enc w g 0 d.toArray := by
  rcases h.cases with ⟨e, _⟩ | ⟨g', cap', cur, e, h1, h2, h3, h4, h5, h6, h7⟩
  · cases e
  simp only [Value.slice.injEq, Option.some.injEq, Addr.mk.injEq] at e
  obtain ⟨⟨rfl, -⟩, -, rfl⟩ := e
  intro j hj
  have hj' : j < d.length := by simpa using hj
  refine ⟨?_, by simp [World.frozen?, h3]⟩
  have h8 : (cur.toList.take (d.map enc).length)[j]? = (d.map enc)[j]? := by rw [h7]
  rw [List.getElem?_take_of_lt (by simpa using hj')] at h8
  simp only [World.cell?, h3, Nat.zero_add]
  simp only [Option.isSome_none, Bool.false_eq_true, if_false]
  rw [← Array.getElem?_toList, h8]
  simp [hj']
theorem heap_srt {cur : Array Value} {fr : Nat × Nat} (d : Array α) (hb : w.heap[g]? = some (.cells cur e fr)) :
    (sortWorld enc w g 0 n d os).heap[g]? = some (.cells (putCells enc 0 d cur) e fr) := by
  have hg : g < w.heap.size := (Array.getElem?_eq_some_iff.1 hb).1
  unfold sortWorld
  rw [heap_grow_old _ _ (by simpa using hg)]
  simp [putRow, mapBlock, Sort.ahead, Array.getElem?_modify, hb, onCells]
theorem grownBy_srt (d : Array α) : w.grownBy (sortWorld enc w g 0 n d os) (some g) := by
  unfold sortWorld
  refine ⟨rfl, rfl, rfl, by simp, fun k hk hne => ?_⟩
  rw [heap_grow_old _ _ (by simpa using hk)]
  have : g ≠ k := fun e => hne (by rw [e])
  simp [putRow, mapBlock, Sort.ahead, Array.getElem?_modify, this]
theorem take_put (cur : Array Value) (ts : List α) (h : ts.length ≤ cur.size) : (putCells enc 0 ts.toArray cur).toList.take ts.length = ts.map enc := by
  apply List.ext_getElem?
  intro j
  by_cases hj : j < ts.length
  · rw [List.getElem?_take_of_lt hj, Array.getElem?_toList]
    simp [putCells, hj, show j < cur.size by omega]
  · rw [List.getElem?_take_eq_none (by omega), List.getElem?_eq_none (by simp; omega)]
/-- behind the sort the same slice owns the sorted list -/
theorem own_srt {ts : List α} (h : Own w B e (.slice (some ⟨g, 0, none⟩) d.length cap) (d.map enc)) (hl : ts.length = d.length) :
    Own (sortWorld enc w g 0 n ts.toArray os) B e (.slice (some ⟨g, 0, none⟩) d.length cap) (ts.map enc) := by
  rcases h.cases with ⟨e, _⟩ | ⟨g', cap', cur, e, h1, h2, h3, h4, h5, h6, h7⟩
  · cases e
  simp only [Value.slice.injEq, Option.some.injEq, Addr.mk.injEq] at e
  obtain ⟨⟨rfl, -⟩, -, rfl⟩ := e
  rw [List.length_map] at h4
  unfold Own
  rw [List.length_map]
  exact ⟨by simp, .inr ⟨g, cap, _, by rw [hl], h1, heap_srt _ h3, by omega, h5, by simp [putCells, h6], by rw [Nat.mul_one]; exact take_put cur ts (by omega)⟩⟩
end
end Go.Proofs.Ytbjeibcombjfgaa

set_option maxRecDepth 100000
set_option linter.unusedVariables false
set_option linter.unusedSimpArgs false
namespace Go.Proofs.Ytbjeibcombjfgaa
open Go.RowKit Go.Sort Go.Shelf

theorem i_canonDesc (w : World) (v v' : Value) (a b : List Int) (ha : Ints w v a) (hb : Ints w v' b) :
    Calls Try.prog 160 #[v, v'] w fun e w' => e = .returned (.int .i64 (cmpL b a)) ∧ w = w' := by
  have HA := Lib.hid ha
  have HB := Lib.hid hb
  obtain ⟨A, c, rfl, -, -, -⟩ := ha.open_
  obtain ⟨A', c', rfl, -, -, -⟩ := hb.open_
  clear ha hb
  go_enter Try.func160, Try.ntmps160
  go_wp2_with (go_at_call 161; refine (lib_Compare _ _ _ b a HB.out HA.out).mono ?_; rintro e w1 ⟨rfl, rfl⟩)
  go_ret
  exact ⟨rfl, rfl⟩

/-- a list of numbers of one's own, with what it holds -/
abbrev Row1s (w : World) (B : Nat) := {p : Value × List Nat // OwnInts w B tI p.1 (up p.2)}
instance (w : World) (B : Nat) : Inhabited (Row1s w B) := ⟨⟨(.slice none 0 0, []), OwnInts.nil _ _ _⟩⟩

theorem mkRows {w : World} {B : Nat} : ∀ {vs : List Value} {bs : List (List Nat)}, RR w B vs (bs.map up) → ∃ d : List (Row1s w B), d.map (fun x => x.1.1) = vs ∧ d.map (fun x => x.1.2) = bs
  | [], [], _ => ⟨[], rfl, rfl⟩
  | [], _ :: _, h => by have := h.1; simp at this
  | _ :: _, [], h => by have := h.1; simp at this
  | v :: vs, b :: bs, h => by
    obtain ⟨d, h1, h2⟩ := mkRows (vs := vs) (bs := bs) ⟨by have := h.1; simpa using this, fun k u zs hu hz => h.2 (k + 1) u zs (by simpa using hu) (by simpa using hz)⟩
    exact ⟨⟨(v, b), h.2 0 v (up b) (by simp) (by simp)⟩ :: d, by simp [h1], by simp [h2]⟩

theorem rowCmp {w : World} {B : Nat} (x y : Row1s w B) : ltOf (fun (x y : Row1s w B) => cmpL (up y.1.2) (up x.1.2)) x y = ltN y.1.2 x.1.2 := cmpL_up _ _
theorem rowSwo (w : World) (B : Nat) : SWO (ltOf fun (x y : Row1s w B) => cmpL (up y.1.2) (up x.1.2)) where
  irrefl x := by rw [rowCmp]; exact ltN_irrefl _
  trans x y z h1 h2 := by rw [rowCmp] at *; exact ltN_trans h2 h1
  ntrans x y z h1 h2 := by rw [rowCmp] at *; exact ltN_ntrans h2 h1

theorem lib_SortDesc (w : World) (B cap : Nat) (A : Option Addr) (vs : List Value) (bs : List (List Nat)) (h : Own w B tL (.slice A vs.length cap) vs) (hr : RR w B vs (bs.map up)) (hn : vs.length ≤ 1000) :
    Calls Try.prog 159 #[.slice A vs.length cap, .func (.func 160) #[] #[]] w fun e w' => e = .returned (.tuple #[]) ∧
      ∃ vs', vs'.length = vs.length ∧ Own w' B tL (.slice A vs.length cap) vs' ∧ RR w' B vs' ((srtD bs).map up) ∧ w.grownBy w' (Value.ownBlock (.slice A vs.length cap)) := by
  rcases h.cases with ⟨he, rfl⟩ | ⟨g, cap', cur, he, hBg, hgs, -⟩
  · simp only [Value.slice.injEq] at he
    obtain ⟨rfl, -, rfl⟩ := he
    have hb : bs = [] := by have h0 := hr.1; rw [List.length_map] at h0; exact List.eq_nil_of_length_eq_zero h0.symm
    subst hb
    refine (AnyF.slices_SortFunc_none { Try.lsort with } none 0 _ w).mono ?_
    rintro e w' ⟨rfl, rfl⟩
    exact ⟨rfl, [], rfl, h, hr, World.grownBy.refl _ _⟩
  · simp only [Value.slice.injEq] at he
    obtain ⟨rfl, -, rfl⟩ := he
    obtain ⟨d, hd1, hd2⟩ := mkRows hr
    have hdl : d.length = vs.length := by rw [← hd1, List.length_map]
    have ho : Own w B tL (.slice (some ⟨g, 0, none⟩) d.length cap) (d.map fun x => x.1.1) := by rw [hd1, hdl]; exact h
    have hone : OneCell (fun x : Row1s w B => x.1.1) := fun x => (RR.one x.2).oneCell _ (by simp)
    have eg : ∀ args w, (callFunc 160 args).run Try.prog w = .ok (.enter 160 args) w := enters_of Try.func160 (by kernel_rfl) rfl
    have hkeep : ∀ (x : Row1s w B) (m : Nat) (dk : Array (Row1s w B)) (os : Array Obj), OwnInts (sortWorld (fun x : Row1s w B => x.1.1) w g 0 m dk os) B tI x.1.1 (up x.1.2) := fun x m dk os =>
      x.2.kept (v' := .slice (some ⟨g, 0, none⟩) vs.length cap) (grownBy_srt dk) (x.2.1.ne_of_type h (by decide))
    have hcmp : CmpReads Try.prog 160 #[] (fun x : Row1s w B => x.1.1) (fun x y => cmpL (up y.1.2) (up x.1.2)) g 0 d.toArray.size w := fun m os dk _ x y =>
      (i_canonDesc _ _ _ _ _ (hkeep x m dk os).ints (hkeep y m dk os).ints).mono fun e w' ⟨he, hw⟩ => ⟨he, 0, hw.symm⟩
    have hcon := Any.slices_SortFunc Try.lsort (fun x : Row1s w B => x.1.1) hone _ (rowSwo w B) 160 #[] g 0 cap d.toArray w eg hcmp.lays (holds_own ho) hgs (by simp; omega)
    rw [List.size_toArray, hdl] at hcon
    refine hcon.mono ?_
    rintro e w' ⟨rfl, d', n, os, hp, hs, rfl⟩
    have hsz : d'.size = vs.length := by have := hp.1; simp at this; omega
    have hperm : d'.toList.Perm d := by
      have h3 := hp.2.2
      rw [← hsz] at h3
      simp only [Array.extract_size] at h3
      have e : (d.toArray.extract 0 d'.size).toList = d := by
        rw [show d'.size = d.toArray.size by simp; omega, Array.extract_size]
      rw [e] at h3
      exact h3
    have hdesc : Desc (d'.toList.map fun x => x.1.2) := by
      rw [Desc, List.pairwise_iff_getElem]
      intro i j hi hj hij
      simp at hi hj
      have h4 := hs i j (Nat.zero_le _) hij (by omega)
      rw [rowCmp, getElem!_pos d' i (by omega), getElem!_pos d' j (by omega)] at h4
      simpa using h4
    have hL : (d'.toList.map fun x => x.1.2) = srtD bs := srtD_unique (by rw [← hd2]; exact hperm.map _) hdesc
    have hl : d'.toList.length = d.length := by simp; omega
    have hfin := own_srt (n := n) (os := os) ho hl
    simp only [Array.toArray_toList] at hfin
    rw [hdl] at hfin
    refine ⟨rfl, d'.toList.map (fun x => x.1.1), by simp; omega, hfin, ⟨by rw [← hL]; simp, fun k u zs hu hz => ?_⟩, grownBy_srt d'⟩
    rw [← hL, List.map_map, List.getElem?_map] at hz
    rw [List.getElem?_map] at hu
    cases hx : d'.toList[k]? with
    | none => rw [hx] at hu; cases hu
    | some x =>
      rw [hx] at hu hz
      simp only [Option.map_some, Option.some.injEq, Function.comp] at hu hz
      subst hu; subst hz
      exact hkeep x _ _ _
end Go.Proofs.Ytbjeibcombjfgaa

set_option maxRecDepth 100000
set_option linter.unusedVariables false
set_option linter.unusedSimpArgs false
namespace Go.Proofs.Ytbjeibcombjfgaa
open Go.RowKit

/-- a row of one's own is stored in a list of rows of one's own -/
theorem RR.store {w : World} {B g n cap k : Nat} {vs : List Value} {xss : List (List Int)} {u : Value} {zs : List Int} (h : Own w B tL (.slice (some ⟨g, 0, none⟩) n cap) vs) (hr : RR w B vs xss) (hk : k < vs.length) (hu : OwnInts w B tI u zs) :
    (∃ u0, w.cell? ⟨g, k, none⟩ = some u0) ∧ w.frozen? ⟨g, k, none⟩ = false ∧ Own (w.setCell ⟨g, k, none⟩ u) B tL (.slice (some ⟨g, 0, none⟩) n cap) (vs.set k u) ∧ RR (w.setCell ⟨g, k, none⟩ u) B (vs.set k u) (xss.set k zs) := by
  obtain ⟨u0, -, hc, hf, -, -, ho, hg⟩ := h.storeAt hk u
  refine ⟨⟨u0, hc⟩, hf, ho, ?_⟩
  exact (hr.set hu).other (v := .slice (some ⟨g, 0, none⟩) n cap) hg h (by decide)

theorem put_step {cs bs : List (List Nat)} {j : Nat} {c : List Nat} (hl : cs.length = bs.length) (hj : j < bs.length) (hc : cs[j]? = some c) :
    ((cs.take j ++ bs.drop j).map up).set j (up c) = (cs.take (j + 1) ++ bs.drop (j + 1)).map up := by
  rw [← List.map_set]
  congr 1
  have e1 : (cs.take j).length = j := by rw [List.length_take]; omega
  rw [List.set_append, if_neg (by omega), e1, Nat.sub_self, List.drop_eq_getElem_cons hj, List.set_cons_zero, List.take_add_one, hc]
  simp
theorem put_at {cs bs : List (List Nat)} {j : Nat} (hl : cs.length = bs.length) (hj : j < bs.length) : (cs.take j ++ bs.drop j)[j]? = bs[j]? := by
  have e1 : (cs.take j).length = j := by rw [List.length_take]; omega
  rw [List.getElem?_append_right (by omega), e1, Nat.sub_self, List.getElem?_drop, Nat.add_zero]

set_option maxHeartbeats 8000000 in
theorem i_canonical : ∀ (f : Nat) (w : World) (v : Value) (t r : List Nat), Ints w v (up t) → canO f t = some r → t.length ≤ 1000 → (∀ l ∈ t, l ≤ 1000000) →
    Calls Try.prog 98 #[v] w fun e w' => ∃ x, e = .returned x ∧ OwnInts w' w.heap.size tI x (up r) ∧ Below w.heap.size w w' := by
  intro f
  induction f with
  | zero => intro w v t r _ h; cases h
  | succ f ih =>
    intro w v t r ha hcan hn hl
    obtain ⟨bs, cs, hb, hm, hr⟩ := canO_parts hcan
    have IH := Lib.hid ih
    have HA := Lib.hid ha
    have HB := Lib.hid hb
    have HM := Lib.hid hm
    have HR := Lib.hid hr
    have HL := Lib.hid hl
    have HLE := Lib.hid (brO_lens hb hn)
    have HLM := Lib.hid (brO_mem hb hl)
    have HCL := Lib.hid (mapO_len hm)
    have HSB := Lib.hid (show ∀ q ∈ srtD cs, q.length ≤ 1000 ∧ ∀ l ∈ q, l < 1000000 from fun q hq => by
      rcases mem_srtF hq with h | h
      · simp at h
      · obtain ⟨x, hx, hxq⟩ := mapO_all hm q h
        have h1 := canO_len hxq
        have h2 := (brO_lens hb hn).2 x hx
        exact ⟨by omega, fun l hl => by have := canO_lt hxq l hl; omega⟩)
    have HBT := Lib.hid (show brLen (srtD cs) ≤ 1000 by
      have h2 := canO_len hcan
      rw [hr, rootN, List.length_cons, bumps_len] at h2
      omega)
    have HSL := Lib.hid (show (srtD cs).length ≤ 1000 by
      have h1 := (brO_lens hb hn).1
      have h2 := mapO_len hm
      rw [srtD, len_srtF, h2]
      simpa using h1)
    have hbl : bs.length ≤ 1000 := HLE.out.1
    obtain ⟨A, c, rfl, -, -, -⟩ := ha.open_
    rw [up_len] at HA ⊢
    clear ih ha hb hm hr hl hcan
    go_enter Try.func98, Try.ntmps98
    go_wp2_with (go_at_call 158; refine (i_branchesOf _ _ t bs HA.out HB.out hn HL.out).mono ?_; rintro e w1 ⟨r1, rfl, ⟨vs0, ho1, hr1⟩, hb1⟩; obtain ⟨A1, c1, he1, -, -⟩ := ho1.cells.open_; have HL0 := Lib.hid (show vs0.length = bs.length by rw [hr1.1, List.length_map]); rw [HL0.out] at he1; subst he1; have HO0 := Lib.hid ho1; have HR0 := Lib.hid hr1; have HB0 := Lib.hid hb1; clear ho1 hr1 hb1)
    go_loopw [10] (fun i wr => ∃ (j : Nat) (vs : List Value), j ≤ bs.length ∧ i = .int .i64 j ∧ Hid (vs.length = bs.length) ∧ Own wr w.heap.size tL (.slice A1 bs.length c1) vs ∧ RR wr w.heap.size vs ((cs.take j ++ bs.drop j).map up) ∧ Below w.heap.size w wr) (fun i _ => bs.length - (intOf i).toNat)
    case atStart => exact ⟨0, vs0, Nat.zero_le _, rfl, HL0, HO0.out, by simpa using HR0.out, HB0.out⟩
    case round =>
      obtain ⟨j, vs, hj, rfl, HVL, hown, hrr, hbw⟩ := hrel
      clear HL0 HO0 HR0 HB0
      have HO := Lib.hid hown
      have HRR := Lib.hid hrr
      have HBW := Lib.hid hbw
      by_cases hlt : j < bs.length
      · rcases hown.cases with ⟨he, hv⟩ | ⟨g, cap, cur, he, hBg, hgs, -⟩
        · have := HVL.out; rw [hv] at this; simp at this; omega
        · simp only [Value.slice.injEq] at he
          obtain ⟨rfl, -, rfl⟩ := he
          have hjv : j < vs.length := by rw [HVL.out]; exact hlt
          have hu' : vs[j]? = some (vs[j]'hjv) := List.getElem?_eq_getElem _
          have hbj : bs[j]? = some (bs[j]'hlt) := List.getElem?_eq_getElem _
          obtain ⟨cj, hcj, hcan⟩ := mapO_get HM.out j _ hbj
          have hi := hrr.2 j _ _ hu' (by rw [List.getElem?_map, put_at HCL.out hlt, hbj]; rfl)
          obtain ⟨Au, cu, hue, -, -, -⟩ := hi.ints.open_
          rw [up_len] at hue
          obtain ⟨u0, hu0, q0, -⟩ := hown.storeAt hjv (.slice none 0 0)
          have hc : wr.cell? ⟨g, j, none⟩ = some (.slice Au (bs[j]'hlt).length cu) := by rw [q0, ← hue, ← hu0, hu']
          have HU := Lib.hid (show Ints wr (.slice Au (bs[j]'hlt).length cu) (up (bs[j]'hlt)) by rw [← hue]; exact hi.ints)
          have HCAN := Lib.hid hcan
          have HBJ1 := Lib.hid (HLE.out.2 _ (List.mem_of_getElem? hbj))
          have HBJ2 := Lib.hid (HLM.out _ (List.mem_of_getElem? hbj))
          have HPS := Lib.hid (put_step HCL.out hlt hcj)
          have HJV := Lib.hid hjv
          have hji : (j : Int) < (bs.length : Int) := by omega
          generalize bs[j]'hlt = bj at HU HCAN HBJ1 HBJ2 hc
          have HGB := Lib.hid hBg
          clear hu' hbj hcj hcan hi hue hu0 q0 hown hrr hbw hjv hBg
          go_wp2_with (go_at_call 98; refine (IH.out _ _ _ _ HU.out HCAN.out HBJ1.out HBJ2.out).mono ?_; rintro e w2 ⟨r2, rfl, ho2, hb2⟩; obtain ⟨A5, c5, he5, -, -, -⟩ := ho2.ints.open_; rw [up_len] at he5; subst he5; obtain ⟨⟨u0, q1⟩, q2, ho3, hr3⟩ := RR.store (k := j) (HO.out.below hb2) (HRR.out.below hb2) HJV.out (ho2.mono HBW.out.size); have HO3 := Lib.hid ho3; have HR3 := Lib.hid hr3; have HB2 := Lib.hid (HBW.out.trans (hb2.mono HBW.out.size)); have hgs2 : g < w2.heap.size := Nat.lt_of_lt_of_le hgs hb2.size; clear ho2 hb2 ho3 hr3)
          go_roundw
          case rel =>
            refine ⟨j + 1, vs.set j (.slice A5 cj.length c5), by omega, by go_num, by simp only [Hid, List.length_set]; exact HVL.out, HO3.out, ?_, HB2.out.setCell (p := ⟨g, j, none⟩) HGB.out _⟩
            rw [← HPS.out]
            exact HR3.out
          case measure => simp [intOf]; omega
      · have : j = bs.length := by omega
        subst this
        have HRR2 := Lib.hid (show RR wr w.heap.size vs (cs.map up) by
          have h := hrr
          rw [List.drop_length, List.append_nil, ← HCL.out, List.take_length] at h
          exact h)
        have HV1 := Lib.hid (show vs.length ≤ 1000 by rw [HVL.out]; exact hbl)
        clear hown hrr hbw HRR
        go_wp2_with (first
          | (go_at_call 159; have hS := lib_SortDesc wr w.heap.size c1 A1 vs cs (by rw [HVL.out]; exact HO.out) HRR2.out HV1.out; rw [HVL.out] at hS; refine hS.mono ?_; clear hS; rintro e w3 ⟨rfl, vs', hl', ho', hr', hg'⟩; have HROW := Lib.hid (hr'.rows ho'); have HB3 := Lib.hid (HBW.out.grown hg' HBW.out.size HO.out.ge); clear ho' hr' hg' hl')
          | (go_at_call 162; refine (i_rootOn _ _ (srtD cs) HROW.out HSB.out HBT.out HSL.out).mono ?_; rintro e w4 ⟨x, rfl, hx, hb4⟩; have HX := Lib.hid hx; have HB4 := Lib.hid hb4; clear hx hb4))
        go_ret
        exact ⟨_, rfl, by rw [HR.out]; exact HX.out.mono HB3.out.size, HB3.out.trans (HB4.out.mono HB3.out.size)⟩
end Go.Proofs.Ytbjeibcombjfgaa

