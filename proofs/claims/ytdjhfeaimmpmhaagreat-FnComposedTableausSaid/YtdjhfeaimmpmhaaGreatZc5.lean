/- Walks: the branches of a level list, of both. | Walks: the branches of a level list, of the reference. | Walks: comparing lists, of the library and of the reference. | Plain facts on canonical lists: lengths and levels, the place where a branch is put in. | Plain: the order of lists of levels; two descending lists of the same elements are one. | Plain: the order of trees, and lists of trees in it. -/
import Derived.Test.YtdjhfeaimmpmhaaGreatZc4
import Derived.WalkLawsBesides
import Derived.Deep.RegionLaw
import Derived.Test.YtdjhfeaimmpmhaaGreatRows
import Derived.Test.YtdjhfeaimmpmhaaGreatZc3
import Derived.Test.YtdjhfeaimmpmhaaGreatZc1
import Derived.Deep.QuietTactic
import Derived.BigQuiet
set_option maxRecDepth 100000
set_option linter.unusedVariables false
set_option linter.unusedSimpArgs false
namespace Go.Proofs.YtdjhfeaimmpmhaaGreat
open Go.RowKit

theorem brF_snoc : ∀ (out : List (List Nat)) (ts : List Nat) (k : Nat) (l : Nat) (o r : List (List Nat)), brF out ts = some r → brF out (ts.take k) = some o → ts[k]? = some l → ∃ o', brStep o l = some o' ∧ brF out (ts.take (k + 1)) = some o'
  | out, [], k, l, o, r, _, _, hl => by simp at hl
  | out, t :: ts, 0, l, o, r, hr, ho, hl => by
    simp at hl; subst hl
    simp [brF] at ho; subst ho
    rw [brF] at hr
    cases hs : brStep out t with
    | none => rw [hs] at hr; cases hr
    | some o' => exact ⟨o', rfl, by simp [brF, hs]⟩
  | out, t :: ts, k + 1, l, o, r, hr, ho, hl => by
    rw [List.take_succ_cons, brF] at ho ⊢
    rw [brF] at hr
    cases hs : brStep out t with
    | none => rw [hs] at hr; cases hr
    | some o1 =>
      rw [hs] at hr ho
      simp only at hr ho ⊢
      exact brF_snoc o1 ts k l o r hr ho (by simpa using hl)
/-- one more step of the branches -/
theorem brStep_cases {o o' : List (List Nat)} {l : Nat} (h : brStep o l = some o') : (l = 1 ∧ o' = o ++ [[0]]) ∨ (2 ≤ l ∧ ∃ (n : Nat) (b : List Nat), o.length = n + 1 ∧ o[n]? = some b ∧ o' = o.set n (b ++ [l - 1])) := by
  unfold brStep at h
  split at h
  · cases h
  · injection h with h; exact .inl ⟨rfl, h.symm⟩
  · rename_i l' 
    split at h
    · cases h
    · rename_i b bs
      injection h with h
      refine .inr ⟨by omega, bs.length, (b :: bs)[bs.length], rfl, by simp, ?_⟩
      rw [← h]
      have : ∀ (b : List Nat) (bs : List (List Nat)), addLast (l' + 1) (b :: bs) = (b :: bs).set bs.length ((b :: bs)[bs.length] ++ [l' + 1]) := by
        intro b bs
        induction bs generalizing b with
        | nil => rfl
        | cons c cs ih =>
          rw [addLast, ih c]
          simp
      exact this b bs

def brLen : List (List Nat) → Nat
  | [] => 0
  | b :: bs => b.length + brLen bs
theorem brLen_append (a b : List (List Nat)) : brLen (a ++ b) = brLen a + brLen b := by
  induction a with
  | nil => simp [brLen]
  | cons x a ih => simp [brLen, ih]; omega
theorem brLen_set {bs : List (List Nat)} {n : Nat} {b : List Nat} (h : bs[n]? = some b) (x : Nat) : brLen (bs.set n (b ++ [x])) = brLen bs + 1 := by
  induction bs generalizing n with
  | nil => simp at h
  | cons c cs ih =>
    cases n with
    | zero => simp at h; subst h; simp [brLen]; omega
    | succ n => simp at h; simp [brLen, ih h]; omega
theorem brLen_mem {bs : List (List Nat)} {n : Nat} {b : List Nat} (h : bs[n]? = some b) : b.length ≤ brLen bs := by
  induction bs generalizing n with
  | nil => simp at h
  | cons c cs ih =>
    cases n with
    | zero => simp at h; subst h; simp [brLen]
    | succ n => simp at h; have := ih h; simp [brLen]; omega
theorem brF_tot : ∀ {out ts r}, brF out ts = some r → brLen r = brLen out + ts.length
  | out, [], r, h => by simp [brF] at h; subst h; simp
  | out, t :: ts, r, h => by
    rw [brF] at h
    cases hs : brStep out t with
    | none => rw [hs] at h; cases h
    | some o =>
      rw [hs] at h
      have h1 := brF_tot h
      have h2 : brLen o = brLen out + 1 := by
        rcases brStep_cases hs with ⟨_, rfl⟩ | ⟨_, n, b, _, hb, rfl⟩
        · rw [brLen_append]; simp [brLen]
        · exact brLen_set hb _
      simp
      omega
theorem up_getD {t : List Nat} {k : Nat} {z : Int} (h : (up t)[k]? = some z) : ∃ l : Nat, t[k]? = some l ∧ z = (l : Int) := by
  rw [up_get] at h
  cases ht : t[k]? with
  | none => rw [ht] at h; cases h
  | some l => rw [ht] at h; simp at h; exact ⟨l, rfl, h.symm⟩

set_option maxHeartbeats 4000000 in
theorem i_branchesOf (w : World) (v : Value) (t : List Nat) (bs : List (List Nat)) (ha : Ints w v (up t)) (hb : brO t = some bs) (hn : t.length ≤ 1000) (hl : ∀ l ∈ t, l ≤ 1000000) :
    Calls Tryz.prog 193 #[v] w fun e w' => ∃ r, e = .returned r ∧ LL w' w.heap.size r (bs.map up) ∧ Below w.heap.size w w' := by
  cases t with
  | nil => cases hb
  | cons t0 ts =>
    have HB := Lib.hid (show brF [] ts = some bs from hb)
    have HLV := Lib.hid hl
    obtain ⟨A, c, rfl, l1, l2, -⟩ := ha.open_
    obtain ⟨X, hsl, hx⟩ := ints_from ha 1 1 rfl (by simp [up])
    have hul : (up (t0 :: ts)).length - 1 = ts.length := by simp [up]
    rw [hul] at hsl hx
    have hnt : ts.length ≤ 1000 := by simp at hn; omega
    obtain ⟨A', c', he, m1, m2, h3⟩ := hx.open_
    have hdl : (up (t0 :: ts)).drop 1 = up ts := by simp [up]
    rw [hdl] at h3 he
    rw [up_len] at he
    simp only [Value.slice.injEq] at he
    obtain ⟨rfl, -, rfl⟩ := he
    have H3 := Lib.hid h3
    have OL := Lib.hid (show BrS (w.alloc (.cells #[] tL)) w.heap.size w.heap.size (.slice (some ⟨w.heap.size, 0, none⟩) 0 0) [] [] from ⟨own_lit w tL [] (by simp [maxLen]), RR.nil _ _, fun k u h => by simp at h, fun u zs h => by simp at h, Nat.le_refl _, by simp⟩)
    generalize hcc : c - 1 = cc at hsl m1 m2
    clear ha hx h3 hb hl hul hdl hn l1 l2 hcc
    generalize (up (t0 :: ts)).length = n0 at hsl ⊢
    go_enter Tryz.func193, Tryz.ntmps193
    go_wp2_with fail
    clear hsl
    have hm1 : ts.length ≤ cc := by simpa [up] using m1
    clear m1
    have HLT := Lib.hid (show ∀ l ∈ ts, l ≤ 1000000 from fun l h => HLV.out l (List.mem_cons_of_mem _ h))
    clear HLV
    go_loopw [3, 10] (fun o i wr => ∃ (j M : Nat) (vs : List Value) (oj : List (List Nat)), j ≤ ts.length ∧ i = .int .i64 j ∧ Hid (brF [] (ts.take j) = some oj) ∧ vs.length ≤ j ∧ BrS wr w.heap.size M o vs (oj.map up) ∧ Below w.heap.size w wr) (fun _ i _ => ts.length - (intOf i).toNat)
    case atStart => exact ⟨0, _, [], [], Nat.zero_le _, rfl, by simp [brF, Hid], Nat.le_refl _, OL.out, below1 _ _⟩
    case round =>
      obtain ⟨j, M, vs, oj, hj, rfl, hO, hvj, hs, hbw⟩ := hrel
      clear OL
      have HS := Lib.hid hs
      have HBW := Lib.hid hbw
      clear hs hbw
      by_cases hlt : j < ts.length
      · obtain ⟨ad, z, rfl, hz, -, hc0⟩ := H3.out j (by rw [up_len]; exact hlt)
        obtain ⟨l, hlj, hzl⟩ := up_getD hz
        obtain ⟨o', hst, hO'⟩ := brF_snoc [] ts j l oj bs HB.out hO.out hlj
        have hl6 := HLT.out l (List.mem_of_getElem? hlj)
        have hc : wr.cell? (ad.add j) = some (.int .i64 z) := by
          rw [HBW.out.cell (by rw [block_add]; have := World.block_lt_of_cell? w _ hc0; rwa [block_add] at this)]; exact hc0
        have HO' := Lib.hid hO'
        clear hz hc0 hO'
        have hji : (j : Int) < (ts.length : Int) := by omega
        have hwz : IntKind.i64.wrap (z - 1) = z - 1 := IntWalk.i64_in _ (by omega)
        rcases brStep_cases hst with ⟨h1, rfl⟩ | ⟨h2, n, b, hn', hb', rfl⟩
        · have hd : (z == 1) = true := by rw [hzl, h1]; rfl
          have HE := Lib.hid (show z - 1 = ((0 : Nat) : Int) by rw [hzl, h1]; rfl)
          have hz64 : In64 (z - 1) := by unfold In64; omega
          clear hst hlj h1 hzl
          have hvl : vs.length ≤ 1000 := by omega
          have hw2 : IntKind.i64.wrap ((vs.length : Int) + 1 - 1) = (vs.length : Int) := by rw [IntWalk.i64_in _ (by omega)]; omega
          go_wp2_with (first
            | (at_builtin; refine wpList_app1 T_row HS.out.own (by omega) (Nat.le_trans HS.out.le HS.out.lt) (by rfl) rfl (by rfl) (by rfl) (by rfl) ?_; intro v1 w1 hown1 hgr1; obtain ⟨g, cap, hv1, k1, k2, hs1, q0, hgs, hge, hu, hzs⟩ := HS.out.pushNil hown1 hgr1.1; have HB1 := Lib.hid (hgr1.below HBW.out HBW.out.size HS.out.own.ge); subst hv1; have HS1 := Lib.hid hs1; have HU := Lib.hid hu; have HZS := Lib.hid hzs; have HGE := Lib.hid hge; clear hown1 hgr1 hs1 hu hzs hge)
            | (at_builtin; refine wpList_app1 T_int (B := wr.heap.size) (v := .slice none 0 0) (vs := []) (Own.nil _ _ _) (by simp) HS1.out.lt (by rfl) rfl (by rfl) (by rfl) (by rfl) ?_; intro u1 w2 hown2 hgr2; obtain ⟨A2, c2, hu1, -, -⟩ := hown2.cells.open_; subst hu1; obtain ⟨⟨u0, q1⟩, q2, hs2⟩ := HS1.out.ready (m := vs.length) (zs1 := [z - 1]) (by simp) HU.out HZS.out ⟨by simpa [ints] using hown2, fun y hy => by simp at hy; subst hy; exact hz64⟩ hgr2.1; have HS2 := Lib.hid hs2; have HB2 := Lib.hid (hgr2.below HB1.out HB1.out.size (fun b hb => by simp [Value.ownBlock] at hb)); have hgs2 : g < w2.heap.size := Nat.lt_of_lt_of_le hgs hgr2.1.size; clear hs2 hown2 hgr2 q0))
          go_roundw
          case rel =>
            have e : (oj ++ [[0]]).map up = (oj.map up ++ [[]]).set vs.length [z - 1] := by
              have hl := HS.out.rows.1
              rw [hl, HE.out]
              simp [up]
            have hfin := HS2.out
            rw [← e] at hfin
            exact ⟨j + 1, _, _, _, by omega, by go_num, HO'.out, by simp; omega, hfin, HB2.out.setCell (p := ⟨g, vs.length, none⟩) HGE.out _⟩
          case measure => simp [intOf]; omega
        · have hd : (z == 1) = false := by rw [hzl]; simp; omega
          have HE := Lib.hid (show z - 1 = ((l - 1 : Nat) : Int) by rw [hzl]; omega)
          have hz64 : In64 (z - 1) := by unfold In64; omega
          have hvn : vs.length = n + 1 := by rw [HS.out.rows.1]; simp [hn']
          have hnn : n + 1 ≤ 1000 := by omega
          have HBB := Lib.hid hb'
          have HOL := Lib.hid hn'
          have HVN := Lib.hid hvn
          have HVJ := Lib.hid hvj
          clear hst hlj h2 hzl hb' hn' hvj
          obtain ⟨g, cap, u, zs, hv1, k1, k2, hu, hzs, hlast, q0⟩ := HS.out.openLast hvn
          subst hv1
          have HZS := Lib.hid (show zs = up b by simp [HBB.out] at hzs; exact hzs.symm)
          have HZ2 := Lib.hid hzs
          have HU := Lib.hid hu
          have HLA := Lib.hid hlast
          have hgs : g < wr.heap.size := World.block_lt_of_cell? wr _ q0
          have hbl : zs.length ≤ 1048576 := by
            have h1 := brF_tot hO.out
            have h2 := brLen_mem HBB.out
            rw [HZS.out, up_len]
            simp [brLen] at h1
            omega
          have hw2 : IntKind.i64.wrap ((n : Int) + 1 - 1) = (n : Int) := by rw [IntWalk.i64_in _ (by omega)]; omega
          clear hu hzs hlast hvn
          go_wp2_with (at_builtin; refine wpList_app1 T_int (B := M) (v := u) (vs := ints zs) HLA.out.1 (by rw [ints_len]; omega) HS.out.lt (by rfl) rfl (by rfl) (by rfl) (by rfl) ?_; intro u1 w2 hown2 hgr2; obtain ⟨A2, c2, hu1, -, -⟩ := hown2.cells.open_; subst hu1; obtain ⟨⟨u0, q1⟩, q2, hs2⟩ := HS.out.ready (m := n) (zs1 := zs ++ [z - 1]) HVN.out HU.out HZ2.out ⟨by simpa [ints] using hown2, fun y hy => by rcases List.mem_append.1 hy with hy | hy; exact HLA.out.2 y hy; simp at hy; subst hy; exact hz64⟩ hgr2.1; have HS2 := Lib.hid hs2; have HB2 := Lib.hid (hgr2.below HBW.out HBW.out.size (fun b hb => Nat.le_trans HS.out.le (HLA.out.1.ge b hb))); have hgs2 : g < w2.heap.size := Nat.lt_of_lt_of_le hgs hgr2.1.size; have HGE := Lib.hid (HS.out.own.ge g rfl); clear hs2 hown2 hgr2 q0)
          go_roundw
          case rel =>
            have e : (oj.set n (b ++ [l - 1])).map up = (oj.map up).set n (zs ++ [z - 1]) := by
              rw [HZS.out, HE.out, List.map_set, up_append]; rfl
            have hfin := HS2.out
            rw [← e, ← ints_len zs] at hfin
            exact ⟨j + 1, _, _, _, by omega, by go_num, HO'.out, by rw [List.length_set]; have := HVJ.out; omega, hfin, HB2.out.setCell (p := ⟨g, n, none⟩) HGE.out _⟩
          case measure => simp [intOf]; omega
      · have : j = ts.length := by omega
        subst this
        rw [List.take_length] at hO
        have HE := Lib.hid (show oj = bs from by have h := hO.out; rw [HB.out] at h; injection h with h; exact h.symm)
        go_wp2_with fail
        go_ret
        exact ⟨_, rfl, ⟨vs, HS.out.own, by rw [← HE.out]; exact HS.out.rows⟩, HBW.out⟩
end Go.Proofs.YtdjhfeaimmpmhaaGreat

set_option maxRecDepth 100000
set_option linter.unusedVariables false
set_option linter.unusedSimpArgs false
namespace Go.Proofs.YtdjhfeaimmpmhaaGreat
open Go.RowKit

end Go.Proofs.YtdjhfeaimmpmhaaGreat

set_option maxRecDepth 100000
set_option linter.unusedVariables false
set_option linter.unusedSimpArgs false
namespace Go.Proofs.YtdjhfeaimmpmhaaGreat
open Go.RowKit

def cmpZ (x y : Int) : Int := if x < y then -1 else if y < x then 1 else 0
/-- the comparison of two lists -/
def cmpL : List Int → List Int → Int
  | [], [] => 0
  | [], _ :: _ => -1
  | _ :: _, [] => 1
  | x :: xs, y :: ys => if x < y then -1 else if y < x then 1 else cmpL xs ys
theorem cmpL_nil_left {b : List Int} : cmpL [] b = if 0 < b.length then -1 else 0 := by cases b <;> simp [cmpL]
theorem cmpL_nil_right {a : List Int} (h : 0 < a.length) : cmpL a [] = 1 := by
  cases a with
  | nil => simp at h
  | cons x xs => rfl
theorem cmpL_step {a b : List Int} {k : Nat} {x y : Int} (hx : a[k]? = some x) (hy : b[k]? = some y) : cmpL (a.drop k) (b.drop k) = if x < y then -1 else if y < x then 1 else cmpL (a.drop (k + 1)) (b.drop (k + 1)) := by
  have ha := (List.getElem?_eq_some_iff.1 hx).1
  have hb := (List.getElem?_eq_some_iff.1 hy).1
  rw [List.drop_eq_getElem_cons ha, List.drop_eq_getElem_cons hb]
  have e1 : a[k] = x := by rw [List.getElem?_eq_getElem ha] at hx; simpa using hx
  have e2 : b[k] = y := by rw [List.getElem?_eq_getElem hb] at hy; simpa using hy
  rw [e1, e2, cmpL]

set_option maxHeartbeats 400000 in
theorem lib_isNaN (x : Int) (w : World) : Calls Tryz.prog 228 #[.int .i64 x] w fun e w' => e = .returned (.bool false) ∧ w = w' := by
  go_enter Tryz.func228, Tryz.ntmps228
  go_wp2
  go_ret
  exact ⟨ret_bool (by simp), rfl⟩

set_option maxHeartbeats 400000 in
theorem lib_cmp (x y : Int) (w : World) : Calls Tryz.prog 202 #[.int .i64 x, .int .i64 y] w fun e w' => e = .returned (.int .i64 (cmpZ x y)) ∧ w = w' := by
  go_enter Tryz.func202, Tryz.ntmps202
  by_cases h1 : x < y
  · have h2 : ¬ y < x := by omega
    go_wp2_with (go_at_call 228; refine (lib_isNaN _ _).mono ?_; rintro e w' ⟨rfl, rfl⟩)
    go_ret
    exact ⟨ret_int (by simp [cmpZ, h1]), rfl⟩
  · by_cases h2 : y < x
    · go_wp2_with (go_at_call 228; refine (lib_isNaN _ _).mono ?_; rintro e w' ⟨rfl, rfl⟩)
      go_ret
      exact ⟨ret_int (by simp [cmpZ, h1, h2]), rfl⟩
    · go_wp2_with (go_at_call 228; refine (lib_isNaN _ _).mono ?_; rintro e w' ⟨rfl, rfl⟩)
      go_ret
      exact ⟨ret_int (by unfold cmpZ; rw [if_neg (by omega), if_neg (by omega)]), rfl⟩

set_option maxHeartbeats 1000000 in
theorem lib_Compare (w : World) (v v' : Value) (a b : List Int) (ha : Ints w v a) (hb : Ints w v' b) :
    Calls Tryz.prog 168 #[v, v'] w fun e w' => e = .returned (.int .i64 (cmpL a b)) ∧ w = w' := by
  obtain ⟨A, c, rfl, l1, l2, h3⟩ := ha.open_
  obtain ⟨B, d, rfl, m1, m2, g3⟩ := hb.open_
  have H3 := Lib.hid h3
  have G3 := Lib.hid g3
  clear ha hb h3 g3
  go_enter Tryz.func168, Tryz.ntmps168
  go_wp2_with fail
  go_loop [11] (fun i => ∃ k : Nat, k ≤ a.length ∧ k ≤ b.length ∧ i = .int .i64 k ∧ Hid (cmpL a b = cmpL (a.drop k) (b.drop k))) (fun i => a.length - (intOf i).toNat)
  case atStart => exact ⟨0, Nat.zero_le _, Nat.zero_le _, rfl, (rfl : cmpL a b = cmpL (a.drop 0) (b.drop 0))⟩
  case round =>
    obtain ⟨k, hk, hkb, rfl, hI⟩ := hrel
    by_cases hlt : k < a.length
    · obtain ⟨ad, x, rfl, hx, -, hcx⟩ := H3.out k hlt
      by_cases hlb : k < b.length
      · obtain ⟨ad', y, rfl, hy, -, hcy⟩ := G3.out k hlb
        have HS := Lib.hid (hI.out.trans (cmpL_step hx hy))
        have hng : ¬ (b.length : Int) ≤ (k : Int) := by omega
        clear hx hy
        by_cases h1 : x < y
        · have hz : cmpZ x y = -1 := by simp [cmpZ, h1]
          have HR := Lib.hid (show cmpL a b = -1 by rw [HS.out, if_pos h1])
          go_wp2_with (go_at_call 202; refine (lib_cmp _ _ _).mono ?_; rintro e w' ⟨rfl, rfl⟩; rw [hz])
          go_ret
          exact ⟨ret_int HR.out.symm, rfl⟩
        · by_cases h2 : y < x
          · have hz : cmpZ x y = 1 := by simp [cmpZ, h1, h2]
            have HR := Lib.hid (show cmpL a b = 1 by rw [HS.out, if_neg h1, if_pos h2])
            go_wp2_with (go_at_call 202; refine (lib_cmp _ _ _).mono ?_; rintro e w' ⟨rfl, rfl⟩; rw [hz])
            go_ret
            exact ⟨ret_int HR.out.symm, rfl⟩
          · have hz : cmpZ x y = 0 := by simp [cmpZ, h1, h2]
            have HR := Lib.hid (show cmpL a b = cmpL (a.drop (k + 1)) (b.drop (k + 1)) by rw [HS.out, if_neg h1, if_neg h2])
            go_wp2_with (go_at_call 202; refine (lib_cmp _ _ _).mono ?_; rintro e w' ⟨rfl, rfl⟩; rw [hz])
            go_round
            case rel => exact ⟨k + 1, by omega, by omega, by go_num, HR.out⟩
            case measure => simp [intOf]; omega
      · have hkb2 : k = b.length := by omega
        have HR := Lib.hid (show cmpL a b = 1 by rw [hI.out, hkb2, List.drop_length, cmpL_nil_right (by simp; omega)])
        have hng : (b.length : Int) ≤ (k : Int) := by omega
        clear hkb2 hx
        go_wp2_with fail
        go_ret
        exact ⟨ret_int HR.out.symm, rfl⟩
    · have hka : k = a.length := by omega
      have HR := Lib.hid (show cmpL a b = if 0 < (b.drop k).length then -1 else 0 by rw [hI.out, hka, List.drop_length, cmpL_nil_left])
      have hna : ¬ (k : Int) < (a.length : Int) := by omega
      by_cases hlb : (a.length : Int) < (b.length : Int)
      · have HR2 := Lib.hid (show cmpL a b = -1 by rw [HR.out, if_pos (by simp; omega)])
        clear hka
        go_wp2_with fail
        go_ret
        exact ⟨ret_int HR2.out.symm, rfl⟩
      · have HR2 := Lib.hid (show cmpL a b = 0 by rw [HR.out, if_neg (by simp; omega)])
        clear hka
        go_wp2_with fail
        go_ret
        exact ⟨ret_int HR2.out.symm, rfl⟩

end Go.Proofs.YtdjhfeaimmpmhaaGreat

set_option linter.unusedVariables false
set_option linter.unusedSimpArgs false
namespace Go.Proofs.YtdjhfeaimmpmhaaGreat

theorem up_cons (a : Nat) (t : List Nat) : up (a :: t) = (a : Int) :: up t := rfl
theorem cmpL_up : ∀ a b : List Nat, decide (cmpL (up a) (up b) < 0) = ltN a b
  | [], [] => rfl
  | [], _ :: _ => rfl
  | _ :: _, [] => rfl
  | a :: aa, b :: bs => by
    rw [up_cons, up_cons, cmpL, ltN, ← cmpL_up aa bs]
    cases h : Nat.beq a b with
    | true =>
      have := Nat.eq_of_beq_eq_true h
      subst this
      simp
    | false =>
      have hne := Nat.ne_of_beq_eq_false h
      rw [cond_false]
      by_cases hlt : a < b
      · rw [if_pos (by omega)]
        have : Nat.blt a b = true := by simp [hlt]
        simp [hlt]
      · rw [if_neg (by omega), if_pos (by omega)]
        have : Nat.blt a b = false := Bool.eq_false_iff.2 (by simp; omega)
        simp [this]
/-- where a list is put in -/
def insAt (p : List Nat) : List (List Nat) → Nat
  | [] => 0
  | q :: qs => bif ltN q p then 0 else insAt p qs + 1
theorem insAt_le (p : List Nat) : ∀ qs : List (List Nat), insAt p qs ≤ qs.length
  | [] => Nat.le_refl _
  | q :: qs => by rw [insAt]; cases ltN q p <;> simp [insAt_le p qs]
theorem insD_at (p : List Nat) : ∀ qs : List (List Nat), insD p qs = qs.take (insAt p qs) ++ p :: qs.drop (insAt p qs)
  | [] => rfl
  | q :: qs => by rw [insD, insAt]; cases ltN q p <;> simp [insD_at p qs]
theorem brLen_insD (p : List Nat) (qs : List (List Nat)) : brLen (insD p qs) = p.length + brLen qs := by
  rw [insD_at]
  have h := congrArg brLen (List.take_append_drop (insAt p qs) qs)
  rw [brLen_append] at h ⊢
  rw [brLen]
  omega
theorem len_insD (p : List Nat) (qs : List (List Nat)) : (insD p qs).length = qs.length + 1 := by
  rw [insD_at]
  have := insAt_le p qs
  simp
  omega
theorem mem_insD {p x : List Nat} {qs : List (List Nat)} (h : x ∈ insD p qs) : x = p ∨ x ∈ qs := by
  rw [insD_at] at h
  rcases List.mem_append.1 h with h | h
  · exact .inr (List.mem_of_mem_take h)
  · rcases List.mem_cons.1 h with h | h
    · exact .inl h
    · exact .inr (List.mem_of_mem_drop h)
theorem brLen_srtF : ∀ (s ps : List (List Nat)), brLen (srtF s ps) = brLen s + brLen ps
  | s, [] => rfl
  | s, p :: ps => by rw [srtF, brLen_srtF, brLen_insD, brLen]; omega
theorem len_srtF : ∀ (s ps : List (List Nat)), (srtF s ps).length = s.length + ps.length
  | s, [] => rfl
  | s, p :: ps => by rw [srtF, len_srtF, len_insD]; simp; omega
theorem mem_srtF {x : List Nat} : ∀ {s ps : List (List Nat)}, x ∈ srtF s ps → x ∈ s ∨ x ∈ ps
  | s, [], h => .inl h
  | s, p :: ps, h => by
    rw [srtF] at h
    rcases mem_srtF h with h | h
    · rcases mem_insD h with h | h
      · exact .inr (by simp [h])
      · exact .inl h
    · exact .inr (by simp [h])
theorem bump_len : ∀ b : List Nat, (bump b).length = b.length
  | [] => rfl
  | a :: aa => by simp [bump, bump_len aa]
theorem bumps_len : ∀ bs : List (List Nat), (bumps bs).length = brLen bs
  | [] => rfl
  | b :: bs => by simp [bumps, brLen, bump_len, bumps_len bs]
theorem bump_mem {l : Nat} : ∀ {b : List Nat}, l ∈ bump b → ∃ l' ∈ b, l = l' + 1
  | a :: aa, h => by
    rw [bump] at h
    rcases List.mem_cons.1 h with h | h
    · exact ⟨a, by simp, h⟩
    · obtain ⟨l', h1, h2⟩ := bump_mem h
      exact ⟨l', by simp [h1], h2⟩
theorem bumps_mem {l : Nat} : ∀ {bs : List (List Nat)}, l ∈ bumps bs → ∃ b ∈ bs, ∃ l' ∈ b, l = l' + 1
  | b :: bs, h => by
    rw [bumps] at h
    rcases List.mem_append.1 h with h | h
    · obtain ⟨l', h1, h2⟩ := bump_mem h
      exact ⟨b, by simp, l', h1, h2⟩
    · obtain ⟨b', h0, l', h1, h2⟩ := bumps_mem h
      exact ⟨b', by simp [h0], l', h1, h2⟩
theorem brLen_memb {b : List Nat} {bs : List (List Nat)} (h : b ∈ bs) : b.length ≤ brLen bs := by
  obtain ⟨k, hk, rfl⟩ := List.getElem_of_mem h
  exact brLen_mem (List.getElem?_eq_getElem hk)
theorem brLen_mapO {g : List Nat → Option (List Nat)} (hg : ∀ x y, g x = some y → y.length = x.length) : ∀ {xs ys : List (List Nat)}, mapO g xs = some ys → brLen ys = brLen xs
  | [], ys, h => by simp [mapO] at h; subst h; rfl
  | x :: xs, ys, h => by
    obtain ⟨y, ys', rfl, h1, h2⟩ := mapO_cons h
    rw [brLen, brLen, hg _ _ h1, brLen_mapO hg h2]
theorem canO_parts {f : Nat} {t r : List Nat} (h : canO (f + 1) t = some r) : ∃ bs cs, brO t = some bs ∧ mapO (canO f) bs = some cs ∧ r = rootN (srtD cs) := by
  rw [canO] at h
  split at h
  · cases h
  · rename_i bs hb
    split at h
    · cases h
    · rename_i cs hc
      injection h with h
      exact ⟨bs, cs, hb, hc, h.symm⟩
theorem brO_tot {t : List Nat} {bs : List (List Nat)} (h : brO t = some bs) : brLen bs + 1 = t.length := by
  cases t with
  | nil => cases h
  | cons a aa =>
    have := brF_tot (show brF [] aa = some bs from h)
    simp [brLen] at this
    simp [this]
theorem canO_len : ∀ {f : Nat} {t r : List Nat}, canO f t = some r → r.length = t.length
  | 0, t, r, h => by cases h
  | f + 1, t, r, h => by
    obtain ⟨bs, cs, h1, h2, rfl⟩ := canO_parts h
    have e1 := brO_tot h1
    have e2 := brLen_mapO (g := canO f) (fun x y hy => canO_len hy) h2
    rw [rootN, List.length_cons, bumps_len, srtD, brLen_srtF, e2]
    simp [brLen]
    exact e1
/-- a canonical list's levels are below its length -/
theorem canO_lt : ∀ {f : Nat} {t r : List Nat}, canO f t = some r → ∀ l ∈ r, l < r.length
  | 0, t, r, h => by cases h
  | f + 1, t, r, h => by
    obtain ⟨bs, cs, h1, h2, rfl⟩ := canO_parts h
    intro l hl
    rw [rootN] at hl ⊢
    rcases List.mem_cons.1 hl with rfl | hl
    · simp
    · obtain ⟨b, hb, l', hl', rfl⟩ := bumps_mem hl
      rw [List.length_cons, bumps_len]
      have hle := brLen_memb hb
      rcases mem_srtF hb with hb | hb
      · simp at hb
      · obtain ⟨x, hx, hxb⟩ := mapO_all h2 b hb
        have := canO_lt hxb l' hl'
        omega
theorem brStep_mem {o o' : List (List Nat)} {l : Nat} (h : brStep o l = some o') {b : List Nat} (hb : b ∈ o') {x : Nat} (hx : x ∈ b) : x ≤ l ∨ ∃ c ∈ o, x ∈ c := by
  rcases brStep_cases h with ⟨h1, rfl⟩ | ⟨h1, n, c, h2, h3, rfl⟩
  · rcases List.mem_append.1 hb with hb | hb
    · exact .inr ⟨b, hb, hx⟩
    · simp at hb; subst hb; simp at hx; exact .inl (by omega)
  · rcases List.mem_or_eq_of_mem_set hb with hb | rfl
    · exact .inr ⟨b, hb, hx⟩
    · rcases List.mem_append.1 hx with hx | hx
      · exact .inr ⟨c, List.mem_of_getElem? h3, hx⟩
      · simp at hx; exact .inl (by omega)
theorem brF_mem {M : Nat} : ∀ {ts : List Nat} {o r : List (List Nat)}, brF o ts = some r → (∀ l ∈ ts, l ≤ M) → (∀ b ∈ o, ∀ x ∈ b, x ≤ M) → ∀ b ∈ r, ∀ x ∈ b, x ≤ M
  | [], o, r, h, _, ho => by simp [brF] at h; subst h; exact ho
  | t :: ts, o, r, h, hl, ho => by
    rw [brF] at h
    cases hs : brStep o t with
    | none => rw [hs] at h; cases h
    | some o1 =>
      rw [hs] at h
      refine brF_mem (M := M) h (fun l hl' => hl l (by simp [hl'])) fun b hb x hx => ?_
      rcases brStep_mem hs hb hx with h1 | ⟨c, hc, hx⟩
      · exact Nat.le_trans h1 (hl t (by simp))
      · exact ho c hc x hx
theorem brO_mem {M : Nat} {t : List Nat} {bs : List (List Nat)} (h : brO t = some bs) (hl : ∀ l ∈ t, l ≤ M) : ∀ b ∈ bs, ∀ x ∈ b, x ≤ M := by
  cases t with
  | nil => cases h
  | cons a aa => exact brF_mem (show brF [] aa = some bs from h) (fun l hl' => hl l (by simp [hl'])) (fun b hb => by simp at hb)
theorem brO_lens {t : List Nat} {bs : List (List Nat)} (h : brO t = some bs) {N : Nat} (hn : t.length ≤ N) : bs.length ≤ N ∧ ∀ b ∈ bs, b.length ≤ N := by
  have e := brO_tot h
  refine ⟨?_, fun b hb => by have := brLen_memb hb; omega⟩
  cases t with
  | nil => cases h
  | cons a aa =>
    have : ∀ (ts : List Nat) (o r : List (List Nat)), brF o ts = some r → r.length ≤ o.length + ts.length := by
      intro ts
      induction ts with
      | nil => intro o r h; simp [brF] at h; subst h; simp
      | cons t ts ih =>
        intro o r h
        rw [brF] at h
        cases hs : brStep o t with
        | none => rw [hs] at h; cases h
        | some o1 =>
          rw [hs] at h
          have h1 := ih o1 r h
          have h2 : o1.length ≤ o.length + 1 := by
            rcases brStep_cases hs with ⟨_, rfl⟩ | ⟨_, n, c, h2, _, rfl⟩
            · simp
            · simp
          simp
          omega
    have := this aa [] bs h
    simp at this hn
    omega
theorem bumps_append : ∀ a b : List (List Nat), bumps (a ++ b) = bumps a ++ bumps b
  | [], b => rfl
  | x :: a, b => by simp [bumps, bumps_append a b]
theorem bump_append : ∀ a b : List Nat, bump (a ++ b) = bump a ++ bump b
  | [], b => rfl
  | x :: a, b => by simp [bump, bump_append a b]
end Go.Proofs.YtdjhfeaimmpmhaaGreat

set_option linter.unusedVariables false
set_option linter.unusedSimpArgs false
namespace Go.Proofs.YtdjhfeaimmpmhaaGreat

theorem blt_iff (a b : Nat) : Nat.blt a b = true ↔ a < b := by simp
theorem ltN_cons (a b : Nat) (s t : List Nat) : ltN (a :: s) (b :: t) = true ↔ a < b ∨ (a = b ∧ ltN s t = true) := by
  rw [ltN]
  cases h : Nat.beq a b with
  | true =>
    have := Nat.eq_of_beq_eq_true h
    subst this
    simp
  | false =>
    have hne := Nat.ne_of_beq_eq_false h
    simp [hne]
theorem ltN_irrefl : ∀ a : List Nat, ltN a a = false
  | [] => rfl
  | a :: s => by
    have := ltN_irrefl s
    cases h : ltN (a :: s) (a :: s) with
    | false => rfl
    | true => rcases (ltN_cons _ _ _ _).1 h with h | ⟨_, h⟩
              · omega
              · rw [this] at h; cases h
theorem ltN_trans : ∀ {a b c : List Nat}, ltN a b = true → ltN b c = true → ltN a c = true
  | [], [], c, h, h' => by cases h
  | [], _ :: _, [], h, h' => by cases h'
  | [], _ :: _, _ :: _, h, h' => rfl
  | _ :: _, [], c, h, h' => by cases h
  | _ :: _, _ :: _, [], h, h' => by cases h'
  | a :: s, b :: t, c :: u, h, h' => by
    rw [ltN_cons] at h h' ⊢
    rcases h with h | ⟨rfl, h⟩ <;> rcases h' with h' | ⟨rfl, h'⟩
    · exact .inl (by omega)
    · exact .inl h
    · exact .inl h'
    · exact .inr ⟨rfl, ltN_trans h h'⟩
theorem ltN_tri : ∀ {a b : List Nat}, ltN a b = false → ltN b a = false → a = b
  | [], [], _, _ => rfl
  | [], _ :: _, h, _ => by cases h
  | _ :: _, [], _, h => by cases h
  | a :: s, b :: t, h, h' => by
    have h1 : ¬ (a < b ∨ (a = b ∧ ltN s t = true)) := fun x => by rw [(ltN_cons a b s t).2 x] at h; cases h
    have h2 : ¬ (b < a ∨ (b = a ∧ ltN t s = true)) := fun x => by rw [(ltN_cons b a t s).2 x] at h'; cases h'
    have e : a = b := by omega
    subst e
    have h3 : ltN s t = false := by cases hh : ltN s t with
      | false => rfl
      | true => exact absurd (.inr ⟨rfl, hh⟩) h1
    have h4 : ltN t s = false := by cases hh : ltN t s with
      | false => rfl
      | true => exact absurd (.inr ⟨rfl, hh⟩) h2
    rw [ltN_tri h3 h4]
theorem ltN_ntrans {a b c : List Nat} (h : ltN a b = false) (h' : ltN b c = false) : ltN a c = false := by
  cases hh : ltN a c with
  | false => rfl
  | true =>
    cases hb : ltN b a with
    | true => rw [ltN_trans hb hh] at h'; cases h'
    | false =>
      have := ltN_tri h hb
      subst this
      rw [h'] at hh; cases hh
theorem ltN_asymm {a b : List Nat} (h : ltN a b = true) : ltN b a = false := by
  cases hh : ltN b a with
  | false => rfl
  | true => have := ltN_trans h hh; rw [ltN_irrefl] at this; cases this

/-- descending -/
def Desc (l : List (List Nat)) : Prop := l.Pairwise fun a b => ltN a b = false
theorem desc_unique : ∀ {l1 l2 : List (List Nat)}, l1.Perm l2 → Desc l1 → Desc l2 → l1 = l2
  | [], l2, h, _, _ => by simpa using h.symm.eq_nil.symm
  | a :: l1, [], h, _, _ => by simpa using h.eq_nil
  | a :: l1, b :: l2, h, h1, h2 => by
    rw [Desc, List.pairwise_cons] at h1 h2
    have e : a = b := by
      by_cases hab : a = b
      · exact hab
      · have ha : a ∈ b :: l2 := h.mem_iff.1 (by simp)
        have hb : b ∈ a :: l1 := h.mem_iff.2 (by simp)
        have ha2 : a ∈ l2 := by rcases List.mem_cons.1 ha with h | h; exact absurd h hab; exact h
        have hb2 : b ∈ l1 := by rcases List.mem_cons.1 hb with h | h; exact absurd h.symm hab; exact h
        exact ltN_tri (h1.1 b hb2) (h2.1 a ha2)
    subst e
    rw [desc_unique h.cons_inv h1.2 h2.2]
theorem insD_perm (p : List Nat) : ∀ qs : List (List Nat), (insD p qs).Perm (p :: qs)
  | [] => .refl _
  | q :: qs => by
    rw [insD]
    cases ltN q p with
    | true => exact .refl _
    | false => exact ((insD_perm p qs).cons q).trans (.swap p q qs)
theorem insD_desc {p : List Nat} : ∀ {qs : List (List Nat)}, Desc qs → Desc (insD p qs)
  | [], _ => by simp [insD, Desc]
  | q :: qs, h => by
    rw [Desc, List.pairwise_cons] at h
    rw [insD]
    cases hq : ltN q p with
    | true =>
      refine List.pairwise_cons.2 ⟨fun x hx => ?_, List.pairwise_cons.2 h⟩
      rcases List.mem_cons.1 hx with rfl | hx
      · exact ltN_asymm hq
      · cases hh : ltN p x with
        | false => rfl
        | true => have := h.1 x hx; rw [ltN_trans hq hh] at this; cases this
    | false =>
      refine List.pairwise_cons.2 ⟨fun x hx => ?_, insD_desc h.2⟩
      rcases mem_insD hx with rfl | hx
      · exact hq
      · exact h.1 x hx
theorem srtF_perm : ∀ (s ps : List (List Nat)), (srtF s ps).Perm (s ++ ps)
  | s, [] => by simp [srtF]
  | s, p :: ps => by
    rw [srtF]
    refine (srtF_perm _ ps).trans ?_
    refine ((insD_perm p s).append_right ps).trans ?_
    exact List.perm_middle.symm
theorem srtF_desc : ∀ {s ps : List (List Nat)}, Desc s → Desc (srtF s ps)
  | s, [], h => h
  | s, p :: ps, h => by rw [srtF]; exact srtF_desc (s := insD p s) (ps := ps) (insD_desc h)
theorem srtD_unique {l ps : List (List Nat)} (h : l.Perm ps) (hd : Desc l) : l = srtD ps :=
  desc_unique (h.trans (srtF_perm [] ps).symm) hd (srtF_desc (by simp [Desc]))
end Go.Proofs.YtdjhfeaimmpmhaaGreat

set_option linter.unusedVariables false
set_option linter.unusedSimpArgs false
namespace Go.Proofs.YtdjhfeaimmpmhaaGreat

theorem befN_iff (s t : List Nat) : befN s t = true ↔ s.length < t.length ∨ (s.length = t.length ∧ ltN t s = true) := by
  unfold befN
  cases h : Nat.beq s.length t.length with
  | true => have := Nat.eq_of_beq_eq_true h; simp [this]
  | false =>
    have := Nat.ne_of_beq_eq_false h
    simp only [cond_false, blt_iff]
    omega
theorem befN_irrefl (a : List Nat) : befN a a = false := by
  cases h : befN a a with
  | false => rfl
  | true =>
    rcases (befN_iff a a).1 h with h | ⟨-, h⟩
    · omega
    · rw [ltN_irrefl] at h; cases h
theorem befN_trans {a b c : List Nat} (h : befN a b = true) (h' : befN b c = true) : befN a c = true := by
  rw [befN_iff] at *
  rcases h with h | ⟨e, h⟩ <;> rcases h' with h' | ⟨e', h'⟩
  · left; omega
  · left; omega
  · left; omega
  · right; exact ⟨by omega, ltN_trans h' h⟩
theorem befN_tri {a b : List Nat} (h : befN a b = false) (h' : befN b a = false) : a = b := by
  have h1 : ¬ befN a b = true := by rw [h]; decide
  have h2 : ¬ befN b a = true := by rw [h']; decide
  rw [befN_iff] at h1 h2
  have e : a.length = b.length := by omega
  refine ltN_tri ?_ ?_
  · cases hh : ltN a b with
    | false => rfl
    | true => exact absurd (.inr ⟨e.symm, hh⟩) h2
  · cases hh : ltN b a with
    | false => rfl
    | true => exact absurd (.inr ⟨e, hh⟩) h1
theorem befN_asymm {a b : List Nat} (h : befN a b = true) : befN b a = false := by
  cases hh : befN b a with
  | false => rfl
  | true => have := befN_trans h hh; rw [befN_irrefl] at this; cases this
theorem befN_ntrans {a b c : List Nat} (h : befN a b = false) (h' : befN b c = false) : befN a c = false := by
  cases hh : befN a c with
  | false => rfl
  | true =>
    cases hb : befN b a with
    | true => rw [befN_trans hb hh] at h'; cases h'
    | false =>
      have := befN_tri h hb
      subst this
      rw [h'] at hh; cases hh

/-- ascending -/
def Asc (l : List (List Nat)) : Prop := l.Pairwise fun a b => befN b a = false
theorem asc_unique : ∀ {l1 l2 : List (List Nat)}, l1.Perm l2 → Asc l1 → Asc l2 → l1 = l2
  | [], l2, h, _, _ => by simpa using h.symm.eq_nil.symm
  | a :: l1, [], h, _, _ => by simpa using h.eq_nil
  | a :: l1, b :: l2, h, h1, h2 => by
    rw [Asc, List.pairwise_cons] at h1 h2
    have e : a = b := by
      by_cases hab : a = b
      · exact hab
      · have ha : a ∈ b :: l2 := h.mem_iff.1 (by simp)
        have hb : b ∈ a :: l1 := h.mem_iff.2 (by simp)
        have ha2 : a ∈ l2 := by rcases List.mem_cons.1 ha with h | h; exact absurd h hab; exact h
        have hb2 : b ∈ l1 := by rcases List.mem_cons.1 hb with h | h; exact absurd h.symm hab; exact h
        exact befN_tri (h2.1 a ha2) (h1.1 b hb2)
    subst e
    rw [asc_unique h.cons_inv h1.2 h2.2]
/-- a tree put into a forest, behind those that are not behind it -/
def insB (p : List Nat) : List (List Nat) → List (List Nat)
  | [] => [p]
  | q :: qs => bif befN p q then p :: q :: qs else q :: insB p qs
def srtBF (s : List (List Nat)) : List (List Nat) → List (List Nat)
  | [] => s
  | p :: ps => srtBF (insB p s) ps
/-- trees in their order -/
def srtB (ps : List (List Nat)) : List (List Nat) := srtBF [] ps
theorem insB_perm (p : List Nat) : ∀ qs : List (List Nat), (insB p qs).Perm (p :: qs)
  | [] => .refl _
  | q :: qs => by
    rw [insB]
    cases befN p q with
    | true => exact .refl _
    | false => exact ((insB_perm p qs).cons q).trans (.swap p q qs)
theorem mem_insB {p x : List Nat} {qs : List (List Nat)} (h : x ∈ insB p qs) : x = p ∨ x ∈ qs := by
  have := (insB_perm p qs).mem_iff.1 h
  simpa using this
theorem insB_asc {p : List Nat} : ∀ {qs : List (List Nat)}, Asc qs → Asc (insB p qs)
  | [], _ => by simp [insB, Asc]
  | q :: qs, h => by
    rw [Asc, List.pairwise_cons] at h
    rw [insB]
    cases hq : befN p q with
    | true =>
      refine List.pairwise_cons.2 ⟨fun x hx => ?_, List.pairwise_cons.2 h⟩
      rcases List.mem_cons.1 hx with rfl | hx
      · exact befN_asymm hq
      · cases hh : befN x p with
        | false => rfl
        | true => have := h.1 x hx; rw [befN_trans hh hq] at this; cases this
    | false =>
      refine List.pairwise_cons.2 ⟨fun x hx => ?_, insB_asc h.2⟩
      rcases mem_insB hx with rfl | hx
      · exact hq
      · exact h.1 x hx
theorem srtBF_perm : ∀ (s ps : List (List Nat)), (srtBF s ps).Perm (s ++ ps)
  | s, [] => by simp [srtBF]
  | s, p :: ps => by
    rw [srtBF]
    refine (srtBF_perm _ ps).trans ?_
    refine ((insB_perm p s).append_right ps).trans ?_
    exact List.perm_middle.symm
theorem srtBF_asc : ∀ {s ps : List (List Nat)}, Asc s → Asc (srtBF s ps)
  | s, [], h => h
  | s, p :: ps, h => by rw [srtBF]; exact srtBF_asc (s := insB p s) (ps := ps) (insB_asc h)
theorem srtB_unique {l ps : List (List Nat)} (h : l.Perm ps) (hd : Asc l) : l = srtB ps :=
  asc_unique (h.trans (srtBF_perm [] ps).symm) hd (srtBF_asc (by simp [Asc]))
theorem srtB_perm (ps : List (List Nat)) : (srtB ps).Perm ps := srtBF_perm [] ps
end Go.Proofs.YtdjhfeaimmpmhaaGreat

