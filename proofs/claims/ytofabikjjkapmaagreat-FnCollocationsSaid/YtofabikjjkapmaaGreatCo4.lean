/- Scaling a list: plain words, and append as a step of a region that draws. | Walks: the branches of a level list, of both. | Walks: the branches of a level list, of the reference. | Walks: comparing lists, of the library and of the reference. | Plain facts on canonical lists: lengths and levels, the place where a branch is put in. | Plain: the order of lists of levels; two descending lists of the same elements are one. | Plain: the order of trees, and lists of trees in it. | Walks of tests: in a range, a number, all numbers. | The walk of the program's length at lists of numbers. | Monomials: words of memory; walks of isMonomial of the program and l13Degree of the reference. | Monomials and fields that came in: words of memory. No program in sight. | Fields, plain: what makes a field. No program in sight. | Walk: l13Is of the reference. | Walk: l03Canon of the reference. | Walk: rootOn of the program. | slices.SortFunc at lists of numbers: laid. -/
import Derived.Test.YtofabikjjkapmaaGreatCo3
import Derived.Deep.RegionHeld3
import Derived.Deep.RegionLaw
import Derived.WalkLawsBesides
import Derived.Test.YtofabikjjkapmaaGreatRows
import Derived.Test.YtofabikjjkapmaaGreatCo2
import Derived.Test.YtofabikjjkapmaaGreatCo1
import Derived.Deep.QuietTactic
import Derived.BigQuiet
import Derived.BigGuardPart
import Derived.Shelf.SlSortCmp.Whole1
import Derived.Shelf.SlSortCmp.NoneTotal
import Derived.Shelf.SlGeneric
import Derived.Ground.SlsfProg
set_option linter.unusedVariables false
set_option linter.unusedSimpArgs false
namespace Go.Proofs.YtofabikjjkapmaaGreat
open Go.RowKit

/-- append of one element, met in a region that draws -/
theorem step_app1 {P : Program} {ops : Array Oper} {o : Oper} {a : Act} {K : Act → World → Prop} {Q : Exit → Act → World → Prop} {E : Prop} {s x : Operand} {t : TypeId}
    {e : TypeId} {z : Value} {bytes : Nat} {B : Nat} {v : Value} {vs : List Value} {W : World} {u : Value}
    (T : ElemT P t e z bytes) (hown : Own W B e v vs) (hlen : vs.length < 1099511627776) (hB : B ≤ W.heap.size) (hu : u.oneCell' = true)
    (hgd : o.guard = none) (ho : o.op = .call { callee := .builtin .append, args := #[s, x], argTypes := #[t, t] }) (hs : a.eval s = v)
    (hx : a.eval x = .slice (some ⟨W.heap.size, 0, none⟩) 1 1)
    (h : ∀ v' w', Own w' B e v' (vs ++ [u]) → Grow W w' v v' → K (a.put o.dst v') w') :
    if Region.wanted o (yielded ops a.tmps) = true then Oper.wp P o a (W.alloc (.cells #[u] e)) K Q else E := by
  have hw : Region.wanted o (yielded ops a.tmps) = true := by simp [Region.wanted, hgd]
  rw [if_pos hw]
  obtain ⟨i, hi, hz, h1, h2⟩ := info_parts T.info
  have hby := T.small
  obtain ⟨v', w', hrun, r1, r2, _, r3⟩ := run_append_own_at (P := P) (W.alloc (.cells #[u] e)) B t o.type e i z 1 bytes T.under hi hz h1 h2 (by rw [T.one]; rfl) (by omega) v vs.length vs (hown.alloc _) ⟨W.heap.size, 0, none⟩ 1 1 [u] rfl
    (fun j u' hj => by
      cases j with
      | zero =>
        simp at hj; subst hj
        have e0 : (⟨W.heap.size, 0, none⟩ : Addr).add 0 = ⟨W.heap.size, 0, none⟩ := rfl
        rw [e0, World.cell?_alloc_at _ _ _ _ rfl]
        rfl
      | succ j => simp at hj) (by simpa using hu) (by simp only [maxLen]; omega) (by have := Nat.mul_le_mul_left (vs.length + 1) hby; omega) (by simp; omega)
  unfold Oper.wp execOp
  simp only [ho, resolve, invoke, builtin, Sem.run_bind, Sem.run_pure, Result.andThen_ok, List.map_toArray, List.map_cons, List.map_nil, hs, hx, hrun]
  refine h v' w' ?_ ⟨?_, ?_⟩
  · unfold Own; simpa using r1
  · refine ⟨r2.os, r2.tape, r2.output, ?_, fun k hk hne => ?_⟩
    · have := r2.size; simp at this; omega
    · rw [r2.block k (by simp; omega) hne]
      exact Below.heap_alloc _ _ _ hk
  · rcases r3 with r3 | r3
    · exact .inl r3
    · exact .inr ⟨_, r3, by simp⟩

/-- a list scaled -/
def scl (k : Int) (zs : List Int) : List Int := zs.map fun z => z * k % 10007
theorem scl_len (k : Int) (zs : List Int) : (scl k zs).length = zs.length := by simp [scl]
theorem scl_in (k : Int) (zs : List Int) : ∀ z ∈ scl k zs, In64 z := by
  intro z hz
  obtain ⟨i, _, rfl⟩ := List.mem_map.1 hz
  unfold In64
  omega
theorem scl_take {k : Int} {zs : List Int} {j : Nat} {z : Int} (h : zs[j]? = some z) : scl k (zs.take (j + 1)) = scl k (zs.take j) ++ [z * k % 10007] := by
  unfold scl
  rw [List.take_add_one, h]; simp
def Nums (zs : List Int) : Prop := ∀ z ∈ zs, 0 ≤ z ∧ z ≤ 10006
theorem scl_nums (k : Int) (zs : List Int) : Nums (scl k zs) := by
  intro z hz
  obtain ⟨i, _, rfl⟩ := List.mem_map.1 hz
  omega

set_option maxHeartbeats 1000000 in
theorem i_scaled (w : World) (v : Value) (zs : List Int) (k : Int) (ha : Ints w v zs) (hN : Nums zs) (hn : zs.length ≤ 4294967296) (h0 : -4000000000000000000 ≤ k) (h1 : k ≤ 4000000000000000000) :
    Calls Tryz.prog 130 #[v, .int .i64 k] w fun e w' => ∃ r, e = .returned r ∧ OwnInts w' w.heap.size tI r (scl (k % 10007) zs) ∧ Below w.heap.size w w' := by
  obtain ⟨A, c, rfl, l1, l2, h3⟩ := ha.open_
  have H3 := Lib.hid h3
  have HN := Lib.hid hN
  clear ha h3 hN
  have OL := Lib.hid (own_lit w tI [] (by simp [maxLen]))
  go_enter Tryz.func130, Tryz.ntmps130
  go_wp2_with fail
  go_loopw [5, 11] (fun o i wr => ∃ j : Nat, j ≤ zs.length ∧ i = .int .i64 j ∧ Own wr w.heap.size tI o (ints (scl (k % 10007) (zs.take j))) ∧ Below w.heap.size w wr) (fun _ i _ => zs.length - (intOf i).toNat)
  case atStart => exact ⟨0, Nat.zero_le _, rfl, by simpa [scl, ints] using OL.out, (Below.refl _ _).alloc (Nat.le_refl _) _⟩
  case round =>
    obtain ⟨j, hj, rfl, hown, hb⟩ := hrel
    clear OL
    have HO := Lib.hid hown
    have HB := Lib.hid hb
    clear hown hb
    by_cases hlt : j < zs.length
    · obtain ⟨ad, z, rfl, hz, hz2, hc0⟩ := H3.out j hlt
      have hc : wr.cell? (ad.add j) = some (.int .i64 z) := by
        rw [HB.out.cell (by rw [block_add]; have := World.block_lt_of_cell? w _ hc0; rwa [block_add] at this)]; exact hc0
      have hzn := HN.out z (List.mem_of_getElem? hz)
      have HS := Lib.hid (scl_take (k := k % 10007) hz)
      have hm0 : 0 ≤ k % 10007 ∧ k % 10007 ≤ 10006 := by omega
      obtain ⟨p1, p2⟩ := mul_bd 10006 10006 hzn.1 hzn.2 hm0.1 hm0.2
      have hmod : k % 10007 % 10007 = k % 10007 := by omega
      clear hz hz2 hc0
      go_wp2_with (first | (go_at_call 56; refine (i_num _ _ (by omega) (by omega)).mono ?_; rintro e w' ⟨rfl, rfl⟩) | (at_builtin; refine wpList_app1 T_int HO.out (by rw [ints_len, scl_len, List.length_take]; omega) HB.out.size (by rfl) rfl (by rfl) (by rfl) (by rfl) ?_; intro v1 w1 hown1 hgr1))
      go_roundw
      case rel =>
        refine ⟨j + 1, by omega, by go_num, ?_, hgr1.below HB.out HB.out.size HO.out.ge⟩
        rw [HS.out]
        simpa [ints] using hown1
      case measure => simp [intOf]; omega
    · have : j = zs.length := by omega
      subst this
      rw [List.take_length] at HO
      go_wp2_with fail
      go_ret
      exact ⟨_, rfl, ⟨HO.out, scl_in _ _⟩, HB.out⟩

end Go.Proofs.YtofabikjjkapmaaGreat

set_option maxRecDepth 100000
set_option linter.unusedVariables false
set_option linter.unusedSimpArgs false
namespace Go.Proofs.YtofabikjjkapmaaGreat
open Go.RowKit

theorem brF_snoc : ∀ (out : List (List Nat)) (ts : List Nat) (k : Nat) (l : Nat) (o r : List (List Nat)), brF out ts = some r → brF out (ts.take k) = some o → ts[k]? = some l → ∃ o', brStep o l = some o' ∧ brF out (ts.take (k + 1)) = some o'
  | out, [], k, l, o, r, _, _, hl => by simp at hl
  | out, t :: ts, 0, l, o, r, hr, ho, hl => by
    simp at hl; subst hl
    simp [brF] at ho; subst ho
    rw [brF] at hr
    cases hs : brStep out t with
    | none => rw [hs] at hr; cases hr
    | some o' => exact ⟨o', rfl, by simp [brF, hs]⟩
  | out, t :: ts, k + 1, l, o, r, hr, ho, hl => by
    rw [List.take_succ_cons, brF] at ho ⊢
    rw [brF] at hr
    cases hs : brStep out t with
    | none => rw [hs] at hr; cases hr
    | some o1 =>
      rw [hs] at hr ho
      simp only at hr ho ⊢
      exact brF_snoc o1 ts k l o r hr ho (by simpa using hl)
/-- one more step of the branches -/
theorem brStep_cases {o o' : List (List Nat)} {l : Nat} (h : brStep o l = some o') : (l = 1 ∧ o' = o ++ [[0]]) ∨ (2 ≤ l ∧ ∃ (n : Nat) (b : List Nat), o.length = n + 1 ∧ o[n]? = some b ∧ o' = o.set n (b ++ [l - 1])) := by
  unfold brStep at h
  split at h
  · cases h
  · injection h with h; exact .inl ⟨rfl, h.symm⟩
  · rename_i l' 
    split at h
    · cases h
    · rename_i b bs
      injection h with h
      refine .inr ⟨by omega, bs.length, (b :: bs)[bs.length], rfl, by simp, ?_⟩
      rw [← h]
      have : ∀ (b : List Nat) (bs : List (List Nat)), addLast (l' + 1) (b :: bs) = (b :: bs).set bs.length ((b :: bs)[bs.length] ++ [l' + 1]) := by
        intro b bs
        induction bs generalizing b with
        | nil => rfl
        | cons c cs ih =>
          rw [addLast, ih c]
          simp
      exact this b bs

def brLen : List (List Nat) → Nat
  | [] => 0
  | b :: bs => b.length + brLen bs
theorem brLen_append (a b : List (List Nat)) : brLen (a ++ b) = brLen a + brLen b := by
  induction a with
  | nil => simp [brLen]
  | cons x a ih => simp [brLen, ih]; omega
theorem brLen_set {bs : List (List Nat)} {n : Nat} {b : List Nat} (h : bs[n]? = some b) (x : Nat) : brLen (bs.set n (b ++ [x])) = brLen bs + 1 := by
  induction bs generalizing n with
  | nil => simp at h
  | cons c cs ih =>
    cases n with
    | zero => simp at h; subst h; simp [brLen]; omega
    | succ n => simp at h; simp [brLen, ih h]; omega
theorem brLen_mem {bs : List (List Nat)} {n : Nat} {b : List Nat} (h : bs[n]? = some b) : b.length ≤ brLen bs := by
  induction bs generalizing n with
  | nil => simp at h
  | cons c cs ih =>
    cases n with
    | zero => simp at h; subst h; simp [brLen]
    | succ n => simp at h; have := ih h; simp [brLen]; omega
theorem brF_tot : ∀ {out ts r}, brF out ts = some r → brLen r = brLen out + ts.length
  | out, [], r, h => by simp [brF] at h; subst h; simp
  | out, t :: ts, r, h => by
    rw [brF] at h
    cases hs : brStep out t with
    | none => rw [hs] at h; cases h
    | some o =>
      rw [hs] at h
      have h1 := brF_tot h
      have h2 : brLen o = brLen out + 1 := by
        rcases brStep_cases hs with ⟨_, rfl⟩ | ⟨_, n, b, _, hb, rfl⟩
        · rw [brLen_append]; simp [brLen]
        · exact brLen_set hb _
      simp
      omega
theorem up_getD {t : List Nat} {k : Nat} {z : Int} (h : (up t)[k]? = some z) : ∃ l : Nat, t[k]? = some l ∧ z = (l : Int) := by
  rw [up_get] at h
  cases ht : t[k]? with
  | none => rw [ht] at h; cases h
  | some l => rw [ht] at h; simp at h; exact ⟨l, rfl, h.symm⟩

set_option maxHeartbeats 4000000 in
theorem i_branchesOf (w : World) (v : Value) (t : List Nat) (bs : List (List Nat)) (ha : Ints w v (up t)) (hb : brO t = some bs) (hn : t.length ≤ 1000) (hl : ∀ l ∈ t, l ≤ 1000000) :
    Calls Tryz.prog 116 #[v] w fun e w' => ∃ r, e = .returned r ∧ LL w' w.heap.size r (bs.map up) ∧ Below w.heap.size w w' := by
  cases t with
  | nil => cases hb
  | cons t0 ts =>
    have HB := Lib.hid (show brF [] ts = some bs from hb)
    have HLV := Lib.hid hl
    obtain ⟨A, c, rfl, l1, l2, -⟩ := ha.open_
    obtain ⟨X, hsl, hx⟩ := ints_from ha 1 1 rfl (by simp [up])
    have hul : (up (t0 :: ts)).length - 1 = ts.length := by simp [up]
    rw [hul] at hsl hx
    have hnt : ts.length ≤ 1000 := by simp at hn; omega
    obtain ⟨A', c', he, m1, m2, h3⟩ := hx.open_
    have hdl : (up (t0 :: ts)).drop 1 = up ts := by simp [up]
    rw [hdl] at h3 he
    rw [up_len] at he
    simp only [Value.slice.injEq] at he
    obtain ⟨rfl, -, rfl⟩ := he
    have H3 := Lib.hid h3
    have OL := Lib.hid (show BrS (w.alloc (.cells #[] tL)) w.heap.size w.heap.size (.slice (some ⟨w.heap.size, 0, none⟩) 0 0) [] [] from ⟨own_lit w tL [] (by simp [maxLen]), RR.nil _ _, fun k u h => by simp at h, fun u zs h => by simp at h, Nat.le_refl _, by simp⟩)
    generalize hcc : c - 1 = cc at hsl m1 m2
    clear ha hx h3 hb hl hul hdl hn l1 l2 hcc
    generalize (up (t0 :: ts)).length = n0 at hsl ⊢
    go_enter Tryz.func116, Tryz.ntmps116
    go_wp2_with fail
    clear hsl
    have hm1 : ts.length ≤ cc := by simpa [up] using m1
    clear m1
    have HLT := Lib.hid (show ∀ l ∈ ts, l ≤ 1000000 from fun l h => HLV.out l (List.mem_cons_of_mem _ h))
    clear HLV
    go_loopw [3, 10] (fun o i wr => ∃ (j M : Nat) (vs : List Value) (oj : List (List Nat)), j ≤ ts.length ∧ i = .int .i64 j ∧ Hid (brF [] (ts.take j) = some oj) ∧ vs.length ≤ j ∧ BrS wr w.heap.size M o vs (oj.map up) ∧ Below w.heap.size w wr) (fun _ i _ => ts.length - (intOf i).toNat)
    case atStart => exact ⟨0, _, [], [], Nat.zero_le _, rfl, by simp [brF, Hid], Nat.le_refl _, OL.out, below1 _ _⟩
    case round =>
      obtain ⟨j, M, vs, oj, hj, rfl, hO, hvj, hs, hbw⟩ := hrel
      clear OL
      have HS := Lib.hid hs
      have HBW := Lib.hid hbw
      clear hs hbw
      by_cases hlt : j < ts.length
      · obtain ⟨ad, z, rfl, hz, -, hc0⟩ := H3.out j (by rw [up_len]; exact hlt)
        obtain ⟨l, hlj, hzl⟩ := up_getD hz
        obtain ⟨o', hst, hO'⟩ := brF_snoc [] ts j l oj bs HB.out hO.out hlj
        have hl6 := HLT.out l (List.mem_of_getElem? hlj)
        have hc : wr.cell? (ad.add j) = some (.int .i64 z) := by
          rw [HBW.out.cell (by rw [block_add]; have := World.block_lt_of_cell? w _ hc0; rwa [block_add] at this)]; exact hc0
        have HO' := Lib.hid hO'
        clear hz hc0 hO'
        have hji : (j : Int) < (ts.length : Int) := by omega
        have hwz : IntKind.i64.wrap (z - 1) = z - 1 := IntWalk.i64_in _ (by omega)
        rcases brStep_cases hst with ⟨h1, rfl⟩ | ⟨h2, n, b, hn', hb', rfl⟩
        · have hd : (z == 1) = true := by rw [hzl, h1]; rfl
          have HE := Lib.hid (show z - 1 = ((0 : Nat) : Int) by rw [hzl, h1]; rfl)
          have hz64 : In64 (z - 1) := by unfold In64; omega
          clear hst hlj h1 hzl
          have hvl : vs.length ≤ 1000 := by omega
          have hw2 : IntKind.i64.wrap ((vs.length : Int) + 1 - 1) = (vs.length : Int) := by rw [IntWalk.i64_in _ (by omega)]; omega
          go_wp2_with (first
            | (at_builtin; refine wpList_app1 T_row HS.out.own (by omega) (Nat.le_trans HS.out.le HS.out.lt) (by rfl) rfl (by rfl) (by rfl) (by rfl) ?_; intro v1 w1 hown1 hgr1; obtain ⟨g, cap, hv1, k1, k2, hs1, q0, hgs, hge, hu, hzs⟩ := HS.out.pushNil hown1 hgr1.1; have HB1 := Lib.hid (hgr1.below HBW.out HBW.out.size HS.out.own.ge); subst hv1; have HS1 := Lib.hid hs1; have HU := Lib.hid hu; have HZS := Lib.hid hzs; have HGE := Lib.hid hge; clear hown1 hgr1 hs1 hu hzs hge)
            | (at_builtin; refine wpList_app1 T_int (B := wr.heap.size) (v := .slice none 0 0) (vs := []) (Own.nil _ _ _) (by simp) HS1.out.lt (by rfl) rfl (by rfl) (by rfl) (by rfl) ?_; intro u1 w2 hown2 hgr2; obtain ⟨A2, c2, hu1, -, -⟩ := hown2.cells.open_; subst hu1; obtain ⟨⟨u0, q1⟩, q2, hs2⟩ := HS1.out.ready (m := vs.length) (zs1 := [z - 1]) (by simp) HU.out HZS.out ⟨by simpa [ints] using hown2, fun y hy => by simp at hy; subst hy; exact hz64⟩ hgr2.1; have HS2 := Lib.hid hs2; have HB2 := Lib.hid (hgr2.below HB1.out HB1.out.size (fun b hb => by simp [Value.ownBlock] at hb)); have hgs2 : g < w2.heap.size := Nat.lt_of_lt_of_le hgs hgr2.1.size; clear hs2 hown2 hgr2 q0))
          go_roundw
          case rel =>
            have e : (oj ++ [[0]]).map up = (oj.map up ++ [[]]).set vs.length [z - 1] := by
              have hl := HS.out.rows.1
              rw [hl, HE.out]
              simp [up]
            have hfin := HS2.out
            rw [← e] at hfin
            exact ⟨j + 1, _, _, _, by omega, by go_num, HO'.out, by simp; omega, hfin, HB2.out.setCell (p := ⟨g, vs.length, none⟩) HGE.out _⟩
          case measure => simp [intOf]; omega
        · have hd : (z == 1) = false := by rw [hzl]; simp; omega
          have HE := Lib.hid (show z - 1 = ((l - 1 : Nat) : Int) by rw [hzl]; omega)
          have hz64 : In64 (z - 1) := by unfold In64; omega
          have hvn : vs.length = n + 1 := by rw [HS.out.rows.1]; simp [hn']
          have hnn : n + 1 ≤ 1000 := by omega
          have HBB := Lib.hid hb'
          have HOL := Lib.hid hn'
          have HVN := Lib.hid hvn
          have HVJ := Lib.hid hvj
          clear hst hlj h2 hzl hb' hn' hvj
          obtain ⟨g, cap, u, zs, hv1, k1, k2, hu, hzs, hlast, q0⟩ := HS.out.openLast hvn
          subst hv1
          have HZS := Lib.hid (show zs = up b by simp [HBB.out] at hzs; exact hzs.symm)
          have HZ2 := Lib.hid hzs
          have HU := Lib.hid hu
          have HLA := Lib.hid hlast
          have hgs : g < wr.heap.size := World.block_lt_of_cell? wr _ q0
          have hbl : zs.length ≤ 1048576 := by
            have h1 := brF_tot hO.out
            have h2 := brLen_mem HBB.out
            rw [HZS.out, up_len]
            simp [brLen] at h1
            omega
          have hw2 : IntKind.i64.wrap ((n : Int) + 1 - 1) = (n : Int) := by rw [IntWalk.i64_in _ (by omega)]; omega
          clear hu hzs hlast hvn
          go_wp2_with (at_builtin; refine wpList_app1 T_int (B := M) (v := u) (vs := ints zs) HLA.out.1 (by rw [ints_len]; omega) HS.out.lt (by rfl) rfl (by rfl) (by rfl) (by rfl) ?_; intro u1 w2 hown2 hgr2; obtain ⟨A2, c2, hu1, -, -⟩ := hown2.cells.open_; subst hu1; obtain ⟨⟨u0, q1⟩, q2, hs2⟩ := HS.out.ready (m := n) (zs1 := zs ++ [z - 1]) HVN.out HU.out HZ2.out ⟨by simpa [ints] using hown2, fun y hy => by rcases List.mem_append.1 hy with hy | hy; exact HLA.out.2 y hy; simp at hy; subst hy; exact hz64⟩ hgr2.1; have HS2 := Lib.hid hs2; have HB2 := Lib.hid (hgr2.below HBW.out HBW.out.size (fun b hb => Nat.le_trans HS.out.le (HLA.out.1.ge b hb))); have hgs2 : g < w2.heap.size := Nat.lt_of_lt_of_le hgs hgr2.1.size; have HGE := Lib.hid (HS.out.own.ge g rfl); clear hs2 hown2 hgr2 q0)
          go_roundw
          case rel =>
            have e : (oj.set n (b ++ [l - 1])).map up = (oj.map up).set n (zs ++ [z - 1]) := by
              rw [HZS.out, HE.out, List.map_set, up_append]; rfl
            have hfin := HS2.out
            rw [← e, ← ints_len zs] at hfin
            exact ⟨j + 1, _, _, _, by omega, by go_num, HO'.out, by rw [List.length_set]; have := HVJ.out; omega, hfin, HB2.out.setCell (p := ⟨g, n, none⟩) HGE.out _⟩
          case measure => simp [intOf]; omega
      · have : j = ts.length := by omega
        subst this
        rw [List.take_length] at hO
        have HE := Lib.hid (show oj = bs from by have h := hO.out; rw [HB.out] at h; injection h with h; exact h.symm)
        go_wp2_with fail
        go_ret
        exact ⟨_, rfl, ⟨vs, HS.out.own, by rw [← HE.out]; exact HS.out.rows⟩, HBW.out⟩
end Go.Proofs.YtofabikjjkapmaaGreat

set_option maxRecDepth 100000
set_option linter.unusedVariables false
set_option linter.unusedSimpArgs false
namespace Go.Proofs.YtofabikjjkapmaaGreat
open Go.RowKit

end Go.Proofs.YtofabikjjkapmaaGreat

set_option maxRecDepth 100000
set_option linter.unusedVariables false
set_option linter.unusedSimpArgs false
namespace Go.Proofs.YtofabikjjkapmaaGreat
open Go.RowKit

/-- the comparison of two lists -/
def cmpL : List Int → List Int → Int
  | [], [] => 0
  | [], _ :: _ => -1
  | _ :: _, [] => 1
  | x :: xs, y :: ys => if x < y then -1 else if y < x then 1 else cmpL xs ys
end Go.Proofs.YtofabikjjkapmaaGreat

set_option linter.unusedVariables false
set_option linter.unusedSimpArgs false
namespace Go.Proofs.YtofabikjjkapmaaGreat

/-- where a list is put in -/
def insAt (p : List Nat) : List (List Nat) → Nat
  | [] => 0
  | q :: qs => bif ltN q p then 0 else insAt p qs + 1
theorem insD_at (p : List Nat) : ∀ qs : List (List Nat), insD p qs = qs.take (insAt p qs) ++ p :: qs.drop (insAt p qs)
  | [] => rfl
  | q :: qs => by rw [insD, insAt]; cases ltN q p <;> simp [insD_at p qs]
theorem mem_insD {p x : List Nat} {qs : List (List Nat)} (h : x ∈ insD p qs) : x = p ∨ x ∈ qs := by
  rw [insD_at] at h
  rcases List.mem_append.1 h with h | h
  · exact .inr (List.mem_of_mem_take h)
  · rcases List.mem_cons.1 h with h | h
    · exact .inl h
    · exact .inr (List.mem_of_mem_drop h)
theorem mem_srtF {x : List Nat} : ∀ {s ps : List (List Nat)}, x ∈ srtF s ps → x ∈ s ∨ x ∈ ps
  | s, [], h => .inl h
  | s, p :: ps, h => by
    rw [srtF] at h
    rcases mem_srtF h with h | h
    · rcases mem_insD h with h | h
      · exact .inr (by simp [h])
      · exact .inl h
    · exact .inr (by simp [h])
theorem bump_len : ∀ b : List Nat, (bump b).length = b.length
  | [] => rfl
  | a :: aa => by simp [bump, bump_len aa]
theorem bumps_len : ∀ bs : List (List Nat), (bumps bs).length = brLen bs
  | [] => rfl
  | b :: bs => by simp [bumps, brLen, bump_len, bumps_len bs]
theorem bump_mem {l : Nat} : ∀ {b : List Nat}, l ∈ bump b → ∃ l' ∈ b, l = l' + 1
  | a :: aa, h => by
    rw [bump] at h
    rcases List.mem_cons.1 h with h | h
    · exact ⟨a, by simp, h⟩
    · obtain ⟨l', h1, h2⟩ := bump_mem h
      exact ⟨l', by simp [h1], h2⟩
theorem bumps_mem {l : Nat} : ∀ {bs : List (List Nat)}, l ∈ bumps bs → ∃ b ∈ bs, ∃ l' ∈ b, l = l' + 1
  | b :: bs, h => by
    rw [bumps] at h
    rcases List.mem_append.1 h with h | h
    · obtain ⟨l', h1, h2⟩ := bump_mem h
      exact ⟨b, by simp, l', h1, h2⟩
    · obtain ⟨b', h0, l', h1, h2⟩ := bumps_mem h
      exact ⟨b', by simp [h0], l', h1, h2⟩
theorem brLen_memb {b : List Nat} {bs : List (List Nat)} (h : b ∈ bs) : b.length ≤ brLen bs := by
  obtain ⟨k, hk, rfl⟩ := List.getElem_of_mem h
  exact brLen_mem (List.getElem?_eq_getElem hk)
theorem canO_parts {f : Nat} {t r : List Nat} (h : canO (f + 1) t = some r) : ∃ bs cs, brO t = some bs ∧ mapO (canO f) bs = some cs ∧ r = rootN (srtD cs) := by
  rw [canO] at h
  split at h
  · cases h
  · rename_i bs hb
    split at h
    · cases h
    · rename_i cs hc
      injection h with h
      exact ⟨bs, cs, hb, hc, h.symm⟩
theorem brO_tot {t : List Nat} {bs : List (List Nat)} (h : brO t = some bs) : brLen bs + 1 = t.length := by
  cases t with
  | nil => cases h
  | cons a aa =>
    have := brF_tot (show brF [] aa = some bs from h)
    simp [brLen] at this
    simp [this]
/-- a canonical list's levels are below its length -/
theorem canO_lt : ∀ {f : Nat} {t r : List Nat}, canO f t = some r → ∀ l ∈ r, l < r.length
  | 0, t, r, h => by cases h
  | f + 1, t, r, h => by
    obtain ⟨bs, cs, h1, h2, rfl⟩ := canO_parts h
    intro l hl
    rw [rootN] at hl ⊢
    rcases List.mem_cons.1 hl with rfl | hl
    · simp
    · obtain ⟨b, hb, l', hl', rfl⟩ := bumps_mem hl
      rw [List.length_cons, bumps_len]
      have hle := brLen_memb hb
      rcases mem_srtF hb with hb | hb
      · simp at hb
      · obtain ⟨x, hx, hxb⟩ := mapO_all h2 b hb
        have := canO_lt hxb l' hl'
        omega
theorem brStep_mem {o o' : List (List Nat)} {l : Nat} (h : brStep o l = some o') {b : List Nat} (hb : b ∈ o') {x : Nat} (hx : x ∈ b) : x ≤ l ∨ ∃ c ∈ o, x ∈ c := by
  rcases brStep_cases h with ⟨h1, rfl⟩ | ⟨h1, n, c, h2, h3, rfl⟩
  · rcases List.mem_append.1 hb with hb | hb
    · exact .inr ⟨b, hb, hx⟩
    · simp at hb; subst hb; simp at hx; exact .inl (by omega)
  · rcases List.mem_or_eq_of_mem_set hb with hb | rfl
    · exact .inr ⟨b, hb, hx⟩
    · rcases List.mem_append.1 hx with hx | hx
      · exact .inr ⟨c, List.mem_of_getElem? h3, hx⟩
      · simp at hx; exact .inl (by omega)
theorem brF_mem {M : Nat} : ∀ {ts : List Nat} {o r : List (List Nat)}, brF o ts = some r → (∀ l ∈ ts, l ≤ M) → (∀ b ∈ o, ∀ x ∈ b, x ≤ M) → ∀ b ∈ r, ∀ x ∈ b, x ≤ M
  | [], o, r, h, _, ho => by simp [brF] at h; subst h; exact ho
  | t :: ts, o, r, h, hl, ho => by
    rw [brF] at h
    cases hs : brStep o t with
    | none => rw [hs] at h; cases h
    | some o1 =>
      rw [hs] at h
      refine brF_mem (M := M) h (fun l hl' => hl l (by simp [hl'])) fun b hb x hx => ?_
      rcases brStep_mem hs hb hx with h1 | ⟨c, hc, hx⟩
      · exact Nat.le_trans h1 (hl t (by simp))
      · exact ho c hc x hx
theorem brO_mem {M : Nat} {t : List Nat} {bs : List (List Nat)} (h : brO t = some bs) (hl : ∀ l ∈ t, l ≤ M) : ∀ b ∈ bs, ∀ x ∈ b, x ≤ M := by
  cases t with
  | nil => cases h
  | cons a aa => exact brF_mem (show brF [] aa = some bs from h) (fun l hl' => hl l (by simp [hl'])) (fun b hb => by simp at hb)
theorem brO_lens {t : List Nat} {bs : List (List Nat)} (h : brO t = some bs) {N : Nat} (hn : t.length ≤ N) : bs.length ≤ N ∧ ∀ b ∈ bs, b.length ≤ N := by
  have e := brO_tot h
  refine ⟨?_, fun b hb => by have := brLen_memb hb; omega⟩
  cases t with
  | nil => cases h
  | cons a aa =>
    have : ∀ (ts : List Nat) (o r : List (List Nat)), brF o ts = some r → r.length ≤ o.length + ts.length := by
      intro ts
      induction ts with
      | nil => intro o r h; simp [brF] at h; subst h; simp
      | cons t ts ih =>
        intro o r h
        rw [brF] at h
        cases hs : brStep o t with
        | none => rw [hs] at h; cases h
        | some o1 =>
          rw [hs] at h
          have h1 := ih o1 r h
          have h2 : o1.length ≤ o.length + 1 := by
            rcases brStep_cases hs with ⟨_, rfl⟩ | ⟨_, n, c, h2, _, rfl⟩
            · simp
            · simp
          simp
          omega
    have := this aa [] bs h
    simp at this hn
    omega
end Go.Proofs.YtofabikjjkapmaaGreat

set_option linter.unusedVariables false
set_option linter.unusedSimpArgs false
namespace Go.Proofs.YtofabikjjkapmaaGreat

theorem blt_iff (a b : Nat) : Nat.blt a b = true ↔ a < b := by simp
theorem ltN_cons (a b : Nat) (s t : List Nat) : ltN (a :: s) (b :: t) = true ↔ a < b ∨ (a = b ∧ ltN s t = true) := by
  rw [ltN]
  cases h : Nat.beq a b with
  | true =>
    have := Nat.eq_of_beq_eq_true h
    subst this
    simp
  | false =>
    have hne := Nat.ne_of_beq_eq_false h
    simp [hne]
theorem ltN_irrefl : ∀ a : List Nat, ltN a a = false
  | [] => rfl
  | a :: s => by
    have := ltN_irrefl s
    cases h : ltN (a :: s) (a :: s) with
    | false => rfl
    | true => rcases (ltN_cons _ _ _ _).1 h with h | ⟨_, h⟩
              · omega
              · rw [this] at h; cases h
theorem ltN_trans : ∀ {a b c : List Nat}, ltN a b = true → ltN b c = true → ltN a c = true
  | [], [], c, h, h' => by cases h
  | [], _ :: _, [], h, h' => by cases h'
  | [], _ :: _, _ :: _, h, h' => rfl
  | _ :: _, [], c, h, h' => by cases h
  | _ :: _, _ :: _, [], h, h' => by cases h'
  | a :: s, b :: t, c :: u, h, h' => by
    rw [ltN_cons] at h h' ⊢
    rcases h with h | ⟨rfl, h⟩ <;> rcases h' with h' | ⟨rfl, h'⟩
    · exact .inl (by omega)
    · exact .inl h
    · exact .inl h'
    · exact .inr ⟨rfl, ltN_trans h h'⟩
theorem ltN_tri : ∀ {a b : List Nat}, ltN a b = false → ltN b a = false → a = b
  | [], [], _, _ => rfl
  | [], _ :: _, h, _ => by cases h
  | _ :: _, [], _, h => by cases h
  | a :: s, b :: t, h, h' => by
    have h1 : ¬ (a < b ∨ (a = b ∧ ltN s t = true)) := fun x => by rw [(ltN_cons a b s t).2 x] at h; cases h
    have h2 : ¬ (b < a ∨ (b = a ∧ ltN t s = true)) := fun x => by rw [(ltN_cons b a t s).2 x] at h'; cases h'
    have e : a = b := by omega
    subst e
    have h3 : ltN s t = false := by cases hh : ltN s t with
      | false => rfl
      | true => exact absurd (.inr ⟨rfl, hh⟩) h1
    have h4 : ltN t s = false := by cases hh : ltN t s with
      | false => rfl
      | true => exact absurd (.inr ⟨rfl, hh⟩) h2
    rw [ltN_tri h3 h4]
end Go.Proofs.YtofabikjjkapmaaGreat

set_option linter.unusedVariables false
set_option linter.unusedSimpArgs false
namespace Go.Proofs.YtofabikjjkapmaaGreat

theorem befN_iff (s t : List Nat) : befN s t = true ↔ s.length < t.length ∨ (s.length = t.length ∧ ltN t s = true) := by
  unfold befN
  cases h : Nat.beq s.length t.length with
  | true => have := Nat.eq_of_beq_eq_true h; simp [this]
  | false =>
    have := Nat.ne_of_beq_eq_false h
    simp only [cond_false, blt_iff]
    omega
theorem befN_irrefl (a : List Nat) : befN a a = false := by
  cases h : befN a a with
  | false => rfl
  | true =>
    rcases (befN_iff a a).1 h with h | ⟨-, h⟩
    · omega
    · rw [ltN_irrefl] at h; cases h
theorem befN_trans {a b c : List Nat} (h : befN a b = true) (h' : befN b c = true) : befN a c = true := by
  rw [befN_iff] at *
  rcases h with h | ⟨e, h⟩ <;> rcases h' with h' | ⟨e', h'⟩
  · left; omega
  · left; omega
  · left; omega
  · right; exact ⟨by omega, ltN_trans h' h⟩
theorem befN_tri {a b : List Nat} (h : befN a b = false) (h' : befN b a = false) : a = b := by
  have h1 : ¬ befN a b = true := by rw [h]; decide
  have h2 : ¬ befN b a = true := by rw [h']; decide
  rw [befN_iff] at h1 h2
  have e : a.length = b.length := by omega
  refine ltN_tri ?_ ?_
  · cases hh : ltN a b with
    | false => rfl
    | true => exact absurd (.inr ⟨e.symm, hh⟩) h2
  · cases hh : ltN b a with
    | false => rfl
    | true => exact absurd (.inr ⟨e, hh⟩) h1
/-- a tree put into a forest, behind those that are not behind it -/
def insB (p : List Nat) : List (List Nat) → List (List Nat)
  | [] => [p]
  | q :: qs => bif befN p q then p :: q :: qs else q :: insB p qs
def srtBF (s : List (List Nat)) : List (List Nat) → List (List Nat)
  | [] => s
  | p :: ps => srtBF (insB p s) ps
/-- trees in their order -/
def srtB (ps : List (List Nat)) : List (List Nat) := srtBF [] ps
end Go.Proofs.YtofabikjjkapmaaGreat

set_option linter.unusedVariables false
set_option linter.unusedSimpArgs false
namespace Go.Proofs.YtofabikjjkapmaaGreat
open Go.RowKit

set_option maxHeartbeats 400000 in
theorem i_inRange (n lo hi : Int) (w : World) :
    Calls Tryz.prog 128 #[.int .i64 n, .int .i64 lo, .int .i64 hi] w fun e w' => e = .returned (.bool (inR n lo hi)) ∧ w = w' := by
  by_cases h1 : lo ≤ n
  · by_cases h2 : n ≤ hi
    · go_enter Tryz.func128, Tryz.ntmps128
      go_wp2
      go_ret
      exact ⟨ret_bool (by simp [inR, h1, h2]), rfl⟩
    · go_enter Tryz.func128, Tryz.ntmps128
      go_wp2
      go_ret
      exact ⟨ret_bool (by simp [inR, h1, h2]), rfl⟩
  · go_enter Tryz.func128, Tryz.ntmps128
    go_wp2
    go_ret
    exact ⟨ret_bool (by simp [inR]; omega), rfl⟩

set_option maxHeartbeats 400000 in
theorem s_l01In (n lo hi : Int) (w : World) :
    Calls Tryz.prog 231 #[.int .i64 n, .int .i64 lo, .int .i64 hi] w fun e w' => e = .returned (.bool (inR n lo hi)) ∧ w = w' := by
  by_cases h1 : lo ≤ n
  · by_cases h2 : n ≤ hi
    · go_enter Tryz.func231, Tryz.ntmps231
      go_wp2
      go_ret
      exact ⟨ret_bool (by simp [inR, h1, h2]), rfl⟩
    · go_enter Tryz.func231, Tryz.ntmps231
      go_wp2
      go_ret
      exact ⟨ret_bool (by simp [inR, h1, h2]), rfl⟩
  · go_enter Tryz.func231, Tryz.ntmps231
    go_wp2
    go_ret
    exact ⟨ret_bool (by simp [inR]; omega), rfl⟩

set_option maxHeartbeats 400000 in
theorem i_IsNumber (n : Int) (w : World) : Calls Tryz.prog 158 #[.int .i64 n] w fun e w' => e = .returned (.bool (isNum n)) ∧ w = w' := by
  go_enter Tryz.func158, Tryz.ntmps158
  go_wp2_with (go_at_call 128; refine (i_inRange _ _ _ _).mono ?_; rintro e w' ⟨rfl, rfl⟩)
  go_ret
  exact ⟨rfl, rfl⟩

set_option maxHeartbeats 400000 in
theorem s_IsNumber (n : Int) (w : World) : Calls Tryz.prog 187 #[.int .i64 n] w fun e w' => e = .returned (.bool (isNum n)) ∧ w = w' := by
  go_enter Tryz.func187, Tryz.ntmps187
  go_wp2_with (go_at_call 231; refine (s_l01In _ _ _ _).mono ?_; rintro e w' ⟨rfl, rfl⟩)
  go_ret
  exact ⟨rfl, rfl⟩

set_option maxHeartbeats 400000 in
theorem i_areNumbers1 (n : Int) (w : World) : Calls Tryz.prog 157 #[.int .i64 n] w fun e w' => e = .returned (.bool (!isNum n)) ∧ w = w' := by
  go_enter Tryz.func157, Tryz.ntmps157
  go_wp2_with (go_at_call 158; refine (i_IsNumber _ _).mono ?_; rintro e w' ⟨rfl, rfl⟩)
  go_ret
  exact ⟨rfl, rfl⟩

set_option maxHeartbeats 400000 in
theorem lib_IndexFuncI (w : World) (v : Value) (zs : List Int) (g : Nat) (p : Int → Bool) (ha : Ints w v zs)
    (hcf : ∀ (args : Array Value) (w : World), Sem.run Tryz.prog (callFunc g args) w = .ok (.enter g args) w)
    (hp : ∀ z : Int, Calls Tryz.prog g #[.int .i64 z] w fun e w' => e = .returned (.bool (p z)) ∧ w = w') :
    Calls Tryz.prog 201 #[v, .func (.func g) #[] #[]] w fun e w' => e = .returned (.int .i64 (idxF p zs)) ∧ w = w' := by
  obtain ⟨A, c, rfl, h1, h2, h3⟩ := ha.open_
  clear ha
  have H3 := Lib.hid h3
  have HP := Lib.hid hp
  clear h3 hp
  go_enter Tryz.func201, Tryz.ntmps201
  go_wp2_with fail
  go_loop [8] (fun i => ∃ k : Nat, k ≤ zs.length ∧ i = .int .i64 k ∧ Hid (∀ i y, i < k → zs[i]? = some y → p y = false)) (fun i => zs.length - (intOf i).toNat)
  case atStart => exact ⟨0, Nat.zero_le _, rfl, fun i y h => by omega⟩
  case round =>
    obtain ⟨k, hk, rfl, hI⟩ := hrel
    by_cases hlt : k < zs.length
    · obtain ⟨ad, z, rfl, hz, hz2, hc⟩ := H3.out k hlt
      have HZ := Lib.hid hz
      clear hz hz2
      go_wp2_with fail
      refine (HP.out z).mono ?_
      rintro e w' ⟨rfl, rfl⟩
      go_wp2_with fail
      · have hpz : p z = true := by assumption
        go_ret
        exact ⟨ret_int (idxF_hit hI.out HZ.out hpz).symm, rfl⟩
      · have hpz : p z = false := by assumption
        go_round
        case rel =>
          refine ⟨k + 1, by omega, by go_num, fun i y hi hy => ?_⟩
          by_cases e : i = k
          · subst e
            rw [HZ.out] at hy
            cases hy
            exact hpz
          · exact hI.out i y (by omega) hy
        case measure => simp [intOf]; omega
    · have : k = zs.length := by omega
      subst this
      go_wp2_with fail
      go_ret
      exact ⟨ret_int (idxF_miss hI.out).symm, rfl⟩

set_option maxHeartbeats 400000 in
theorem lib_ContainsFuncI (w : World) (v : Value) (zs : List Int) (g : Nat) (p : Int → Bool) (ha : Ints w v zs)
    (hcf : ∀ (args : Array Value) (w : World), Sem.run Tryz.prog (callFunc g args) w = .ok (.enter g args) w)
    (hp : ∀ z : Int, Calls Tryz.prog g #[.int .i64 z] w fun e w' => e = .returned (.bool (p z)) ∧ w = w') :
    Calls Tryz.prog 156 #[v, .func (.func g) #[] #[]] w fun e w' => e = .returned (.bool (zs.any p)) ∧ w = w' := by
  have HA := Lib.hid ha
  have HP := Lib.hid hp
  clear ha hp
  go_enter Tryz.func156, Tryz.ntmps156
  go_wp2_with (go_at_call 201; refine (lib_IndexFuncI _ _ _ _ _ HA.out hcf HP.out).mono ?_; rintro e w' ⟨rfl, rfl⟩)
  go_ret
  exact ⟨ret_bool (idxF_nonneg p zs), rfl⟩

set_option maxHeartbeats 400000 in
theorem i_areNumbers (w : World) (v : Value) (zs : List Int) (ha : Ints w v zs) : Calls Tryz.prog 90 #[v] w fun e w' => e = .returned (.bool (nums zs)) ∧ w = w' := by
  have HA := Lib.hid ha
  clear ha
  go_enter Tryz.func90, Tryz.ntmps90
  go_wp2_with (go_at_call 156; refine (lib_ContainsFuncI _ _ _ _ (fun z => !isNum z) HA.out (fun _ _ => by kernel_rfl) (fun z => i_areNumbers1 z _)).mono ?_; rintro e w' ⟨rfl, rfl⟩)
  go_ret
  exact ⟨ret_bool (by rw [any_not_nums, Bool.not_not]), rfl⟩

set_option maxHeartbeats 400000 in
theorem s_l01Numbers (w : World) (v : Value) (zs : List Int) (ha : Ints w v zs) : Calls Tryz.prog 133 #[v] w fun e w' => e = .returned (.bool (nums zs)) ∧ w = w' := by
  obtain ⟨A, c, rfl, h1, h2, h3⟩ := ha.open_
  clear ha
  have H3 := Lib.hid h3
  clear h3
  go_enter Tryz.func133, Tryz.ntmps133
  go_wp2_with fail
  go_loop [3] (fun i => ∃ k : Nat, k ≤ zs.length ∧ i = .int .i64 k ∧ Hid (∀ i y, i < k → zs[i]? = some y → isNum y = true)) (fun i => zs.length - (intOf i).toNat)
  case atStart => exact ⟨0, Nat.zero_le _, rfl, fun i y h => by omega⟩
  case round =>
    obtain ⟨k, hk, rfl, hI⟩ := hrel
    by_cases hlt : k < zs.length
    · obtain ⟨ad, z, rfl, hz, hz2, hc⟩ := H3.out k hlt
      have HZ := Lib.hid hz
      clear hz hz2
      go_wp2_with (go_at_call 187; refine (s_IsNumber _ _).mono ?_; rintro e w' ⟨rfl, rfl⟩)
      · have hpz : isNum z = false := by simpa using (by assumption : (!isNum z) = true)
        go_ret
        exact ⟨ret_bool (nums_false HZ.out hpz).symm, rfl⟩
      · have hpz : isNum z = true := by simpa using (by assumption : (!isNum z) = false)
        go_round
        case rel =>
          refine ⟨k + 1, by omega, by go_num, fun i y hi hy => ?_⟩
          by_cases e : i = k
          · subst e
            rw [HZ.out] at hy
            cases hy
            exact hpz
          · exact hI.out i y (by omega) hy
        case measure => simp [intOf]; omega
    · have : k = zs.length := by omega
      subst this
      go_wp2_with fail
      go_ret
      exact ⟨ret_bool (nums_all hI.out).symm, rfl⟩
end Go.Proofs.YtofabikjjkapmaaGreat

set_option linter.unusedVariables false
set_option linter.unusedSimpArgs false
namespace Go.Proofs.YtofabikjjkapmaaGreat
open Go.RowKit

set_option maxHeartbeats 400000 in
theorem lib_lengthI (w : World) (v : Value) (zs : List Int) (ha : Ints w v zs) : Calls Tryz.prog 59 #[v] w fun e w' => e = .returned (.int .i64 zs.length) ∧ w = w' := by
  obtain ⟨A, c, rfl, h1, h2, h3⟩ := ha.open_
  clear ha h3
  go_enter Tryz.func59, Tryz.ntmps59
  go_wp2
  go_ret
  exact ⟨rfl, rfl⟩

end Go.Proofs.YtofabikjjkapmaaGreat

set_option maxRecDepth 100000
set_option linter.unusedVariables false
set_option linter.unusedSimpArgs false
namespace Go.Proofs.YtofabikjjkapmaaGreat
open Go.RowKit

/-- a monomial: the factor and the powers -/
abbrev Mono := Int × List Int
/-- a monomial that can be read -/
def MonoArg (w : World) (v : Value) (m : Mono) : Prop := ∃ u, v = .agg #[.int .i64 m.1, u] ∧ In64 m.1 ∧ Ints w u m.2
theorem MonoArg.below {w w' : World} {v : Value} {m : Mono} (h : MonoArg w v m) (hb : Below w.heap.size w w') : MonoArg w' v m := by
  obtain ⟨u, rfl, h1, h2⟩ := h
  exact ⟨u, rfl, h1, h2.below hb⟩

end Go.Proofs.YtofabikjjkapmaaGreat

set_option maxRecDepth 100000
set_option linter.unusedVariables false
set_option linter.unusedSimpArgs false
namespace Go.Proofs.YtofabikjjkapmaaGreat
open Go.RowKit

/-- a list of monomials that can be read -/
def Monos (w : World) (v : Value) (ms : List Mono) : Prop :=
  ∃ A c, v = .slice A ms.length c ∧ ms.length ≤ c ∧ c ≤ maxLen ∧ ∀ (k : Nat) (m : Mono), ms[k]? = some m → ∃ b o u, A = some ⟨b, o, none⟩ ∧ In64 m.1 ∧ Ints w u m.2 ∧ w.cell? ⟨b, o + k * 2, none⟩ = some (.int .i64 m.1) ∧ w.cell? ⟨b, o + k * 2 + 1, none⟩ = some u
theorem Monos.below {w w' : World} {v : Value} {ms : List Mono} (h : Monos w v ms) (hb : Below w.heap.size w w') : Monos w' v ms := by
  obtain ⟨A, c, rfl, h1, h2, h3⟩ := h
  refine ⟨A, c, rfl, h1, h2, fun k m hm => ?_⟩
  obtain ⟨b, o, u, hA, hf, hu, hc, hc'⟩ := h3 k m hm
  refine ⟨b, o, u, hA, hf, hu.below hb, ?_, ?_⟩
  · rw [hb.cell (World.block_lt_of_cell? w _ hc)]; exact hc
  · rw [hb.cell (World.block_lt_of_cell? w _ hc')]; exact hc'
theorem Monos.open_ {w : World} {v : Value} {ms : List Mono} (h : Monos w v ms) : ∃ A c, v = .slice A ms.length c ∧ ms.length ≤ c ∧ c ≤ 9223372036854775807 ∧ ∀ (k : Nat), k < ms.length → ∃ b o m u, A = some ⟨b, o, none⟩ ∧ ms[k]? = some m ∧ In64 m.1 ∧ Ints w u m.2 ∧ w.cell? ⟨b, o + k * 2, none⟩ = some (.int .i64 m.1) ∧ w.cell? ⟨b, o + k * 2 + 1, none⟩ = some u := by
  obtain ⟨A, c, rfl, h1, h2, h3⟩ := h
  refine ⟨A, c, rfl, h1, by simpa [maxLen] using h2, fun k hk => ?_⟩
  obtain ⟨b, o, u, hA, hf, hu, hc, hc'⟩ := h3 k ms[k] (List.getElem?_eq_getElem hk)
  exact ⟨b, o, ms[k], u, hA, List.getElem?_eq_getElem hk, hf, hu, hc, hc'⟩
/-- lists of monomials that can be read -/
def MRows (w : World) (v : Value) (pss : List (List Mono)) : Prop :=
  ∃ vs, Cells w v vs ∧ vs.length = pss.length ∧ ∀ (k : Nat) (u : Value) (ms : List Mono), vs[k]? = some u → pss[k]? = some ms → Monos w u ms
theorem MRows.below {w w' : World} {v : Value} {pss : List (List Mono)} (h : MRows w v pss) (hb : Below w.heap.size w w') : MRows w' v pss := by
  obtain ⟨vs, h1, h2, h3⟩ := h
  exact ⟨vs, h1.below hb, h2, fun k u ms hu hm => (h3 k u ms hu hm).below hb⟩
theorem MRows.open_ {w : World} {v : Value} {pss : List (List Mono)} (h : MRows w v pss) : ∃ A c, v = .slice A pss.length c ∧ pss.length ≤ c ∧ c ≤ 9223372036854775807 ∧ ∀ (k : Nat), k < pss.length → ∃ ad u ms, A = some ad ∧ pss[k]? = some ms ∧ Monos w u ms ∧ w.cell? (ad.add k) = some u := by
  obtain ⟨vs, ⟨A, c, rfl, h1, h2, h3⟩, h4, h5⟩ := h
  rw [h4] at h1 ⊢
  refine ⟨A, c, rfl, h1, by simpa [maxLen] using h2, fun k hk => ?_⟩
  have hv : vs[k]? = some (vs[k]'(by rw [h4]; exact hk)) := List.getElem?_eq_getElem _
  obtain ⟨ad, hA, hc⟩ := h3 k _ hv
  exact ⟨ad, _, pss[k], hA, List.getElem?_eq_getElem hk, h5 k _ _ hv (List.getElem?_eq_getElem hk), hc⟩
end Go.Proofs.YtofabikjjkapmaaGreat

set_option maxRecDepth 100000
set_option linter.unusedVariables false
set_option linter.unusedSimpArgs false
namespace Go.Proofs.YtofabikjjkapmaaGreat
open Go.RowKit

end Go.Proofs.YtofabikjjkapmaaGreat

set_option maxRecDepth 100000
set_option linter.unusedVariables false
set_option linter.unusedSimpArgs false
namespace Go.Proofs.YtofabikjjkapmaaGreat
open Go.RowKit

end Go.Proofs.YtofabikjjkapmaaGreat

set_option maxRecDepth 100000
set_option linter.unusedVariables false
set_option linter.unusedSimpArgs false
namespace Go.Proofs.YtofabikjjkapmaaGreat
open Go.RowKit

section
variable {w : World} {B : Nat} {vs us : List Value} {xss yss : List (List Int)}
theorem RR.append (h : RR w B vs xss) (h' : RR w B us yss) : RR w B (vs ++ us) (xss ++ yss) := by
  refine ⟨by simp [h.1, h'.1], fun k u zs hu hz => ?_⟩
  by_cases hlt : k < vs.length
  · rw [List.getElem?_append_left hlt] at hu
    rw [List.getElem?_append_left (by rw [← h.1]; exact hlt)] at hz
    exact h.2 k u zs hu hz
  · rw [List.getElem?_append_right (by omega)] at hu
    rw [List.getElem?_append_right (by rw [← h.1]; omega), ← h.1] at hz
    exact h'.2 _ u zs hu hz
theorem RR.take (h : RR w B vs xss) (k : Nat) : RR w B (vs.take k) (xss.take k) := by
  refine ⟨by simp [h.1], fun j u zs hu hz => ?_⟩
  rw [List.getElem?_take] at hu hz
  split at hu
  · rw [if_pos (by assumption)] at hz
    exact h.2 j u zs hu hz
  · cases hu
theorem RR.drop (h : RR w B vs xss) (k : Nat) : RR w B (vs.drop k) (xss.drop k) := by
  refine ⟨by simp [h.1], fun j u zs hu hz => ?_⟩
  rw [List.getElem?_drop] at hu hz
  exact h.2 _ u zs hu hz
theorem RR.one {u : Value} {zs : List Int} (h : OwnInts w B tI u zs) : RR w B [u] [zs] := (RR.nil w B).snoc h
end

end Go.Proofs.YtofabikjjkapmaaGreat

set_option maxRecDepth 100000
set_option linter.unusedVariables false
set_option linter.unusedSimpArgs false
namespace Go.Proofs.YtofabikjjkapmaaGreat
open Go.RowKit

end Go.Proofs.YtofabikjjkapmaaGreat

set_option maxRecDepth 100000
namespace Go.Proofs
open Go.Shelf Go.RowKit Go.Lib Go.Sort
def Tryz.lsort_ren : Go.Shelf.Ren := ⟨fun | 6 => 239 | 15 => 246 | 14 => 256 | 28 => 266 | 29 => 267 | 20 => 274 | 21 => 275 | 22 => 276 | 23 => 277 | 24 => 278 | 25 => 279 | 26 => 280 | 27 => 281 | 46 => 291 | 47 => 284 | 48 => 285 | 49 => 292 | 50 => 293 | 57 => 299 | n => n, fun | 22 => 35 | 24 => 27 | 25 => 129 | 3 => 3 | 39 => 84 | 0 => 0 | 53 => 197 | 55 => 26 | 4 => 4 | 46 => 191 | 45 => 190 | 50 => 127 | 5 => 5 | 9 => 9 | 66 => 210 | 70 => 214 | 76 => 220 | 77 => 221 | n => n, fun | n => n⟩
theorem Tryz.lsort : Go.Proofs.SlLaysF.n6 Tryz.prog Tryz.lsort_ren := {
  mixed := by kernel_rfl
  f6 := ⟨Tryz.f239.name, by decide, Tryz.func239.trans (congrArg some (by kernel_rfl))⟩
  f14 := ⟨Tryz.f256.name, by decide, Tryz.func256.trans (congrArg some (by kernel_rfl))⟩
  f15 := Tryz.func246.trans (congrArg some (by kernel_rfl))
  f20 := ⟨Tryz.f274.name, by decide, Tryz.func274.trans (congrArg some (by kernel_rfl))⟩
  f21 := ⟨Tryz.f275.name, by decide, Tryz.func275.trans (congrArg some (by kernel_rfl))⟩
  f22 := ⟨Tryz.f276.name, by decide, Tryz.func276.trans (congrArg some (by kernel_rfl))⟩
  f23 := ⟨Tryz.f277.name, by decide, Tryz.func277.trans (congrArg some (by kernel_rfl))⟩
  f24 := ⟨Tryz.f278.name, by decide, Tryz.func278.trans (congrArg some (by kernel_rfl))⟩
  f25 := ⟨Tryz.f279.name, by decide, Tryz.func279.trans (congrArg some (by kernel_rfl))⟩
  f26 := ⟨Tryz.f280.name, by decide, Tryz.func280.trans (congrArg some (by kernel_rfl))⟩
  f27 := ⟨Tryz.f281.name, by decide, Tryz.func281.trans (congrArg some (by kernel_rfl))⟩
  f28 := Tryz.func266.trans (congrArg some (by kernel_rfl))
  f29 := Tryz.func267.trans (congrArg some (by kernel_rfl))
  f46 := ⟨Tryz.f291.name, by decide, Tryz.func291.trans (congrArg some (by kernel_rfl))⟩
  f47 := Tryz.func284.trans (congrArg some (by kernel_rfl))
  f48 := Tryz.func285.trans (congrArg some (by kernel_rfl))
  f49 := ⟨Tryz.f292.name, by decide, Tryz.func292.trans (congrArg some (by kernel_rfl))⟩
  f50 := ⟨Tryz.f293.name, by decide, Tryz.func293.trans (congrArg some (by kernel_rfl))⟩
  f57 := ⟨Tryz.f299.name, by decide, Tryz.func299.trans (congrArg some (by kernel_rfl))⟩
  t0 := Tryz.underlying0
  a0 := Tryz.isAgg0
  z0 := Tryz.sizeOf0
  v0 := Tryz.zeroValue0
  t3 := Tryz.underlying3
  a3 := Tryz.isAgg3
  z3 := Tryz.sizeOf3
  v3 := Tryz.zeroValue3
  t4 := Tryz.underlying4
  a4 := Tryz.isAgg4
  z4 := Tryz.sizeOf4
  v4 := Tryz.zeroValue4
  t5 := Tryz.underlying5
  a5 := Tryz.isAgg5
  z5 := Tryz.sizeOf5
  v5 := Tryz.zeroValue5
  t9 := Tryz.underlying9
  a9 := Tryz.isAgg9
  z9 := Tryz.sizeOf9
  v9 := Tryz.zeroValue9
  t22 := Tryz.underlying35
  a22 := Tryz.isAgg35
  z22 := Tryz.sizeOf35
  v22 := Tryz.zeroValue35
  a24 := Tryz.isAgg27
  z24 := Tryz.sizeOf27
  t25 := Tryz.underlying129
  a25 := Tryz.isAgg129
  z25 := Tryz.sizeOf129
  v25 := Tryz.zeroValue129
  t39 := Tryz.underlying84
  a39 := Tryz.isAgg84
  z39 := Tryz.sizeOf84
  v39 := Tryz.zeroValue84
  t45 := Tryz.underlying190
  a45 := Tryz.isAgg190
  z45 := Tryz.sizeOf190
  v45 := Tryz.zeroValue190
  t46 := Tryz.underlying191
  a46 := Tryz.isAgg191
  z46 := Tryz.sizeOf191
  v46 := Tryz.zeroValue191
  t50 := Tryz.underlying127
  a50 := Tryz.isAgg127
  z50 := Tryz.sizeOf127
  v50 := Tryz.zeroValue127
  t53 := Tryz.underlying197
  a53 := Tryz.isAgg197
  z53 := Tryz.sizeOf197
  v53 := Tryz.zeroValue197
  t55 := Tryz.underlying26
  a55 := Tryz.isAgg26
  z55 := Tryz.sizeOf26
  v55 := Tryz.zeroValue26
  t66 := Tryz.underlying210
  a66 := Tryz.isAgg210
  z66 := Tryz.sizeOf210
  v66 := Tryz.zeroValue210
  t70 := Tryz.underlying214
  a70 := Tryz.isAgg214
  z70 := Tryz.sizeOf214
  v70 := Tryz.zeroValue214
  t76 := Tryz.underlying220
  a76 := Tryz.isAgg220
  z76 := Tryz.sizeOf220
  v76 := Tryz.zeroValue220
  t77 := Tryz.underlying221
  a77 := Tryz.isAgg221
  z77 := Tryz.sizeOf221
  v77 := Tryz.zeroValue221 }
end Go.Proofs

