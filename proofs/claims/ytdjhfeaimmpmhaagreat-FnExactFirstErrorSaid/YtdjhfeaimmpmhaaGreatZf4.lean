/- Walks: the branches of a level list, of both. | Walks: the branches of a level list, of the reference. | Walks: comparing lists, of the library and of the reference. -/
import Derived.Test.YtdjhfeaimmpmhaaGreatZf3
import Derived.WalkLawsBesides
import Derived.Deep.RegionLaw
import Derived.Test.YtdjhfeaimmpmhaaGreatRows
import Derived.Test.YtdjhfeaimmpmhaaGreatZf1
import Derived.Test.YtdjhfeaimmpmhaaGreatZf2
import Derived.Deep.QuietTactic
import Derived.BigQuiet
set_option maxRecDepth 100000
set_option linter.unusedVariables false
set_option linter.unusedSimpArgs false
namespace Go.Proofs.YtdjhfeaimmpmhaaGreat
open Go.RowKit

theorem brF_snoc : ∀ (out : List (List Nat)) (ts : List Nat) (k : Nat) (l : Nat) (o r : List (List Nat)), brF out ts = some r → brF out (ts.take k) = some o → ts[k]? = some l → ∃ o', brStep o l = some o' ∧ brF out (ts.take (k + 1)) = some o'
  | out, [], k, l, o, r, _, _, hl => by simp at hl
  | out, t :: ts, 0, l, o, r, hr, ho, hl => by
    simp at hl; subst hl
    simp [brF] at ho; subst ho
    rw [brF] at hr
    cases hs : brStep out t with
    | none => rw [hs] at hr; cases hr
    | some o' => exact ⟨o', rfl, by simp [brF, hs]⟩
  | out, t :: ts, k + 1, l, o, r, hr, ho, hl => by
    rw [List.take_succ_cons, brF] at ho ⊢
    rw [brF] at hr
    cases hs : brStep out t with
    | none => rw [hs] at hr; cases hr
    | some o1 =>
      rw [hs] at hr ho
      simp only at hr ho ⊢
      exact brF_snoc o1 ts k l o r hr ho (by simpa using hl)
/-- one more step of the branches -/
theorem brStep_cases {o o' : List (List Nat)} {l : Nat} (h : brStep o l = some o') : (l = 1 ∧ o' = o ++ [[0]]) ∨ (2 ≤ l ∧ ∃ (n : Nat) (b : List Nat), o.length = n + 1 ∧ o[n]? = some b ∧ o' = o.set n (b ++ [l - 1])) := by
  unfold brStep at h
  split at h
  · cases h
  · injection h with h; exact .inl ⟨rfl, h.symm⟩
  · rename_i l' 
    split at h
    · cases h
    · rename_i b bs
      injection h with h
      refine .inr ⟨by omega, bs.length, (b :: bs)[bs.length], rfl, by simp, ?_⟩
      rw [← h]
      have : ∀ (b : List Nat) (bs : List (List Nat)), addLast (l' + 1) (b :: bs) = (b :: bs).set bs.length ((b :: bs)[bs.length] ++ [l' + 1]) := by
        intro b bs
        induction bs generalizing b with
        | nil => rfl
        | cons c cs ih =>
          rw [addLast, ih c]
          simp
      exact this b bs

def brLen : List (List Nat) → Nat
  | [] => 0
  | b :: bs => b.length + brLen bs
theorem brLen_append (a b : List (List Nat)) : brLen (a ++ b) = brLen a + brLen b := by
  induction a with
  | nil => simp [brLen]
  | cons x a ih => simp [brLen, ih]; omega
theorem brLen_set {bs : List (List Nat)} {n : Nat} {b : List Nat} (h : bs[n]? = some b) (x : Nat) : brLen (bs.set n (b ++ [x])) = brLen bs + 1 := by
  induction bs generalizing n with
  | nil => simp at h
  | cons c cs ih =>
    cases n with
    | zero => simp at h; subst h; simp [brLen]; omega
    | succ n => simp at h; simp [brLen, ih h]; omega
theorem brLen_mem {bs : List (List Nat)} {n : Nat} {b : List Nat} (h : bs[n]? = some b) : b.length ≤ brLen bs := by
  induction bs generalizing n with
  | nil => simp at h
  | cons c cs ih =>
    cases n with
    | zero => simp at h; subst h; simp [brLen]
    | succ n => simp at h; have := ih h; simp [brLen]; omega
theorem brF_tot : ∀ {out ts r}, brF out ts = some r → brLen r = brLen out + ts.length
  | out, [], r, h => by simp [brF] at h; subst h; simp
  | out, t :: ts, r, h => by
    rw [brF] at h
    cases hs : brStep out t with
    | none => rw [hs] at h; cases h
    | some o =>
      rw [hs] at h
      have h1 := brF_tot h
      have h2 : brLen o = brLen out + 1 := by
        rcases brStep_cases hs with ⟨_, rfl⟩ | ⟨_, n, b, _, hb, rfl⟩
        · rw [brLen_append]; simp [brLen]
        · exact brLen_set hb _
      simp
      omega
theorem up_getD {t : List Nat} {k : Nat} {z : Int} (h : (up t)[k]? = some z) : ∃ l : Nat, t[k]? = some l ∧ z = (l : Int) := by
  rw [up_get] at h
  cases ht : t[k]? with
  | none => rw [ht] at h; cases h
  | some l => rw [ht] at h; simp at h; exact ⟨l, rfl, h.symm⟩

set_option maxHeartbeats 4000000 in
theorem i_branchesOf (w : World) (v : Value) (t : List Nat) (bs : List (List Nat)) (ha : Ints w v (up t)) (hb : brO t = some bs) (hn : t.length ≤ 1000) (hl : ∀ l ∈ t, l ≤ 1000000) :
    Calls Tryz.prog 193 #[v] w fun e w' => ∃ r, e = .returned r ∧ LL w' w.heap.size r (bs.map up) ∧ Below w.heap.size w w' := by
  cases t with
  | nil => cases hb
  | cons t0 ts =>
    have HB := Lib.hid (show brF [] ts = some bs from hb)
    have HLV := Lib.hid hl
    obtain ⟨A, c, rfl, l1, l2, -⟩ := ha.open_
    obtain ⟨X, hsl, hx⟩ := ints_from ha 1 1 rfl (by simp [up])
    have hul : (up (t0 :: ts)).length - 1 = ts.length := by simp [up]
    rw [hul] at hsl hx
    have hnt : ts.length ≤ 1000 := by simp at hn; omega
    obtain ⟨A', c', he, m1, m2, h3⟩ := hx.open_
    have hdl : (up (t0 :: ts)).drop 1 = up ts := by simp [up]
    rw [hdl] at h3 he
    rw [up_len] at he
    simp only [Value.slice.injEq] at he
    obtain ⟨rfl, -, rfl⟩ := he
    have H3 := Lib.hid h3
    have OL := Lib.hid (show BrS (w.alloc (.cells #[] tL)) w.heap.size w.heap.size (.slice (some ⟨w.heap.size, 0, none⟩) 0 0) [] [] from ⟨own_lit w tL [] (by simp [maxLen]), RR.nil _ _, fun k u h => by simp at h, fun u zs h => by simp at h, Nat.le_refl _, by simp⟩)
    generalize hcc : c - 1 = cc at hsl m1 m2
    clear ha hx h3 hb hl hul hdl hn l1 l2 hcc
    generalize (up (t0 :: ts)).length = n0 at hsl ⊢
    go_enter Tryz.func193, Tryz.ntmps193
    go_wp2_with fail
    clear hsl
    have hm1 : ts.length ≤ cc := by simpa [up] using m1
    clear m1
    have HLT := Lib.hid (show ∀ l ∈ ts, l ≤ 1000000 from fun l h => HLV.out l (List.mem_cons_of_mem _ h))
    clear HLV
    go_loopw [3, 10] (fun o i wr => ∃ (j M : Nat) (vs : List Value) (oj : List (List Nat)), j ≤ ts.length ∧ i = .int .i64 j ∧ Hid (brF [] (ts.take j) = some oj) ∧ vs.length ≤ j ∧ BrS wr w.heap.size M o vs (oj.map up) ∧ Below w.heap.size w wr) (fun _ i _ => ts.length - (intOf i).toNat)
    case atStart => exact ⟨0, _, [], [], Nat.zero_le _, rfl, by simp [brF, Hid], Nat.le_refl _, OL.out, below1 _ _⟩
    case round =>
      obtain ⟨j, M, vs, oj, hj, rfl, hO, hvj, hs, hbw⟩ := hrel
      clear OL
      have HS := Lib.hid hs
      have HBW := Lib.hid hbw
      clear hs hbw
      by_cases hlt : j < ts.length
      · obtain ⟨ad, z, rfl, hz, -, hc0⟩ := H3.out j (by rw [up_len]; exact hlt)
        obtain ⟨l, hlj, hzl⟩ := up_getD hz
        obtain ⟨o', hst, hO'⟩ := brF_snoc [] ts j l oj bs HB.out hO.out hlj
        have hl6 := HLT.out l (List.mem_of_getElem? hlj)
        have hc : wr.cell? (ad.add j) = some (.int .i64 z) := by
          rw [HBW.out.cell (by rw [block_add]; have := World.block_lt_of_cell? w _ hc0; rwa [block_add] at this)]; exact hc0
        have HO' := Lib.hid hO'
        clear hz hc0 hO'
        have hji : (j : Int) < (ts.length : Int) := by omega
        have hwz : IntKind.i64.wrap (z - 1) = z - 1 := IntWalk.i64_in _ (by omega)
        rcases brStep_cases hst with ⟨h1, rfl⟩ | ⟨h2, n, b, hn', hb', rfl⟩
        · have hd : (z == 1) = true := by rw [hzl, h1]; rfl
          have HE := Lib.hid (show z - 1 = ((0 : Nat) : Int) by rw [hzl, h1]; rfl)
          have hz64 : In64 (z - 1) := by unfold In64; omega
          clear hst hlj h1 hzl
          have hvl : vs.length ≤ 1000 := by omega
          have hw2 : IntKind.i64.wrap ((vs.length : Int) + 1 - 1) = (vs.length : Int) := by rw [IntWalk.i64_in _ (by omega)]; omega
          go_wp2_with (first
            | (at_builtin; refine wpList_app1 T_row HS.out.own (by omega) (Nat.le_trans HS.out.le HS.out.lt) (by rfl) rfl (by rfl) (by rfl) (by rfl) ?_; intro v1 w1 hown1 hgr1; obtain ⟨g, cap, hv1, k1, k2, hs1, q0, hgs, hge, hu, hzs⟩ := HS.out.pushNil hown1 hgr1.1; have HB1 := Lib.hid (hgr1.below HBW.out HBW.out.size HS.out.own.ge); subst hv1; have HS1 := Lib.hid hs1; have HU := Lib.hid hu; have HZS := Lib.hid hzs; have HGE := Lib.hid hge; clear hown1 hgr1 hs1 hu hzs hge)
            | (at_builtin; refine wpList_app1 T_int (B := wr.heap.size) (v := .slice none 0 0) (vs := []) (Own.nil _ _ _) (by simp) HS1.out.lt (by rfl) rfl (by rfl) (by rfl) (by rfl) ?_; intro u1 w2 hown2 hgr2; obtain ⟨A2, c2, hu1, -, -⟩ := hown2.cells.open_; subst hu1; obtain ⟨⟨u0, q1⟩, q2, hs2⟩ := HS1.out.ready (m := vs.length) (zs1 := [z - 1]) (by simp) HU.out HZS.out ⟨by simpa [ints] using hown2, fun y hy => by simp at hy; subst hy; exact hz64⟩ hgr2.1; have HS2 := Lib.hid hs2; have HB2 := Lib.hid (hgr2.below HB1.out HB1.out.size (fun b hb => by simp [Value.ownBlock] at hb)); have hgs2 : g < w2.heap.size := Nat.lt_of_lt_of_le hgs hgr2.1.size; clear hs2 hown2 hgr2 q0))
          go_roundw
          case rel =>
            have e : (oj ++ [[0]]).map up = (oj.map up ++ [[]]).set vs.length [z - 1] := by
              have hl := HS.out.rows.1
              rw [hl, HE.out]
              simp [up]
            have hfin := HS2.out
            rw [← e] at hfin
            exact ⟨j + 1, _, _, _, by omega, by go_num, HO'.out, by simp; omega, hfin, HB2.out.setCell (p := ⟨g, vs.length, none⟩) HGE.out _⟩
          case measure => simp [intOf]; omega
        · have hd : (z == 1) = false := by rw [hzl]; simp; omega
          have HE := Lib.hid (show z - 1 = ((l - 1 : Nat) : Int) by rw [hzl]; omega)
          have hz64 : In64 (z - 1) := by unfold In64; omega
          have hvn : vs.length = n + 1 := by rw [HS.out.rows.1]; simp [hn']
          have hnn : n + 1 ≤ 1000 := by omega
          have HBB := Lib.hid hb'
          have HOL := Lib.hid hn'
          have HVN := Lib.hid hvn
          have HVJ := Lib.hid hvj
          clear hst hlj h2 hzl hb' hn' hvj
          obtain ⟨g, cap, u, zs, hv1, k1, k2, hu, hzs, hlast, q0⟩ := HS.out.openLast hvn
          subst hv1
          have HZS := Lib.hid (show zs = up b by simp [HBB.out] at hzs; exact hzs.symm)
          have HZ2 := Lib.hid hzs
          have HU := Lib.hid hu
          have HLA := Lib.hid hlast
          have hgs : g < wr.heap.size := World.block_lt_of_cell? wr _ q0
          have hbl : zs.length ≤ 1048576 := by
            have h1 := brF_tot hO.out
            have h2 := brLen_mem HBB.out
            rw [HZS.out, up_len]
            simp [brLen] at h1
            omega
          have hw2 : IntKind.i64.wrap ((n : Int) + 1 - 1) = (n : Int) := by rw [IntWalk.i64_in _ (by omega)]; omega
          clear hu hzs hlast hvn
          go_wp2_with (at_builtin; refine wpList_app1 T_int (B := M) (v := u) (vs := ints zs) HLA.out.1 (by rw [ints_len]; omega) HS.out.lt (by rfl) rfl (by rfl) (by rfl) (by rfl) ?_; intro u1 w2 hown2 hgr2; obtain ⟨A2, c2, hu1, -, -⟩ := hown2.cells.open_; subst hu1; obtain ⟨⟨u0, q1⟩, q2, hs2⟩ := HS.out.ready (m := n) (zs1 := zs ++ [z - 1]) HVN.out HU.out HZ2.out ⟨by simpa [ints] using hown2, fun y hy => by rcases List.mem_append.1 hy with hy | hy; exact HLA.out.2 y hy; simp at hy; subst hy; exact hz64⟩ hgr2.1; have HS2 := Lib.hid hs2; have HB2 := Lib.hid (hgr2.below HBW.out HBW.out.size (fun b hb => Nat.le_trans HS.out.le (HLA.out.1.ge b hb))); have hgs2 : g < w2.heap.size := Nat.lt_of_lt_of_le hgs hgr2.1.size; have HGE := Lib.hid (HS.out.own.ge g rfl); clear hs2 hown2 hgr2 q0)
          go_roundw
          case rel =>
            have e : (oj.set n (b ++ [l - 1])).map up = (oj.map up).set n (zs ++ [z - 1]) := by
              rw [HZS.out, HE.out, List.map_set, up_append]; rfl
            have hfin := HS2.out
            rw [← e, ← ints_len zs] at hfin
            exact ⟨j + 1, _, _, _, by omega, by go_num, HO'.out, by rw [List.length_set]; have := HVJ.out; omega, hfin, HB2.out.setCell (p := ⟨g, n, none⟩) HGE.out _⟩
          case measure => simp [intOf]; omega
      · have : j = ts.length := by omega
        subst this
        rw [List.take_length] at hO
        have HE := Lib.hid (show oj = bs from by have h := hO.out; rw [HB.out] at h; injection h with h; exact h.symm)
        go_wp2_with fail
        go_ret
        exact ⟨_, rfl, ⟨vs, HS.out.own, by rw [← HE.out]; exact HS.out.rows⟩, HBW.out⟩
end Go.Proofs.YtdjhfeaimmpmhaaGreat

set_option maxRecDepth 100000
set_option linter.unusedVariables false
set_option linter.unusedSimpArgs false
namespace Go.Proofs.YtdjhfeaimmpmhaaGreat
open Go.RowKit

set_option maxHeartbeats 4000000 in
theorem s_l03Parts (w : World) (v : Value) (t : List Nat) (bs : List (List Nat)) (ha : Ints w v (up t)) (hb : brO t = some bs) (hn : t.length ≤ 1000) (hl : ∀ l ∈ t, l ≤ 1000000) :
    Calls Tryz.prog 192 #[v] w fun e w' => ∃ r, e = .returned r ∧ LL w' w.heap.size r (bs.map up) ∧ Below w.heap.size w w' := by
  cases t with
  | nil => cases hb
  | cons t0 ts =>
    have HB := Lib.hid (show brF [] ts = some bs from hb)
    have HLV := Lib.hid hl
    obtain ⟨A, c, rfl, m1, m2, h3⟩ := ha.open_
    have hul : (up (t0 :: ts)).length = ts.length + 1 := by simp [up]
    rw [hul] at m1 h3 ⊢
    have hnt : ts.length ≤ 1000 := by simp at hn; omega
    have H3 := Lib.hid h3
    have OL := Lib.hid (show BrS (w.alloc (.cells #[] tL)) w.heap.size w.heap.size (.slice (some ⟨w.heap.size, 0, none⟩) 0 0) [] [] from ⟨own_lit w tL [] (by simp [maxLen]), RR.nil _ _, fun k u h => by simp at h, fun u zs h => by simp at h, Nat.le_refl _, by simp⟩)
    clear ha h3 hb hl hul hn
    have HLT := Lib.hid (show ∀ l ∈ ts, l ≤ 1000000 from fun l h => HLV.out l (List.mem_cons_of_mem _ h))
    clear HLV
    go_enter Tryz.func192, Tryz.ntmps192
    go_wp2_with fail
    go_loopw [3, 4, 5] (fun o i s5 wr => ∃ (j M : Nat) (vs : List Value) (oj : List (List Nat)), j ≤ ts.length ∧ i = .int .i64 ((j : Int) + 1) ∧ Hid (brF [] (ts.take j) = some oj) ∧ vs.length ≤ j ∧ BrS wr w.heap.size M o vs (oj.map up) ∧ Below w.heap.size w wr) (fun _ i _ _ => ts.length + 1 - (intOf i).toNat)
    case atStart => exact ⟨0, _, [], [], Nat.zero_le _, rfl, by simp [brF, Hid], Nat.le_refl _, OL.out, below1 _ _⟩
    case round =>
      obtain ⟨j, M, vs, oj, hj, rfl, hO, hvj, hs, hbw⟩ := hrel
      clear OL
      have HS := Lib.hid hs
      have HBW := Lib.hid hbw
      clear hs hbw
      by_cases hlt : j < ts.length
      · obtain ⟨ad, z, rfl, hz, -, hc0⟩ := H3.out (j + 1) (by omega)
        have hz' : (up ts)[j]? = some z := by simpa [up] using hz
        obtain ⟨l, hlj, hzl⟩ := up_getD hz'
        obtain ⟨o', hst, hO'⟩ := brF_snoc [] ts j l oj bs HB.out hO.out hlj
        have hl6 := HLT.out l (List.mem_of_getElem? hlj)
        have HC := Lib.hid (show ∀ W, Below w.heap.size w W → W.cell? ⟨ad.block, ad.off + (j + 1), none⟩ = some (.int .i64 z) from fun W hW => by
          have hc0' : W.cell? (ad.add (j + 1)) = some (.int .i64 z) := by
            rw [hW.cell (by rw [block_add]; have := World.block_lt_of_cell? w _ hc0; rwa [block_add] at this)]; exact hc0
          simpa [Addr.add] using hc0')
        have hc := HC.out wr HBW.out
        have HO' := Lib.hid hO'
        clear hz hz' hc0 hO'
        have hji : (j : Int) + 1 < (ts.length : Int) + 1 := by omega
        have hj0 : 0 ≤ (j : Int) + 1 := by omega
        have hj1 : ((j : Int) + 1).toNat = j + 1 := by omega
        have hwz : IntKind.i64.wrap (z - 1) = z - 1 := IntWalk.i64_in _ (by omega)
        rcases brStep_cases hst with ⟨h1, rfl⟩ | ⟨h2, n, b, hn', hb', rfl⟩
        · have hd : (z == 1) = true := by rw [hzl, h1]; rfl
          have HE := Lib.hid (show z - 1 = ((0 : Nat) : Int) by rw [hzl, h1]; rfl)
          have hz64 : In64 (z - 1) := by unfold In64; omega
          clear hst hlj h1 hzl
          have hvl : vs.length ≤ 1000 := by omega
          have hw2 : IntKind.i64.wrap ((vs.length : Int) + 1 - 1) = (vs.length : Int) := by rw [IntWalk.i64_in _ (by omega)]; omega
          have HSA := Lib.hid (HS.out.below (below1 wr (.cells #[] tI)))
          have HBA := Lib.hid (HBW.out.alloc HBW.out.size (.cells #[] tI))
          go_wp2_with (at_builtin; (refine wpList_app1n (wr.heap.size + 1) (size_alloc' _ _) T_row HSA.out.own (by omega) (Nat.le_trans HSA.out.le HSA.out.lt) (by rfl) rfl (by rfl) (by rfl) (by rfl) ?_); intro v1 w1 hown1 hgr1; (obtain ⟨g, cap, hv1, k1, k2, hs1, q0, hgs, hge, hu, hzs, hli⟩ := HS.out.pushLit hown1 hgr1.1); have HB1 := Lib.hid (hgr1.below HBA.out HBA.out.size HSA.out.own.ge); subst hv1; have HS1 := Lib.hid (hs1.below ((Below.refl _ _).drew)); have HB1D := Lib.hid (HB1.out.drew); have HU := Lib.hid hu; have HZS := Lib.hid hzs; have HGE := Lib.hid hge; have HLI := Lib.hid (hli.below ((Below.refl _ _).drew)); have hcz := HC.out w1 HB1.out; have hgs1 : g < w1.heap.size := hgs; clear hown1 hgr1 hs1 hu hzs hge hli hc)
          have HSL := Lib.hid HS1.out.lt
          have hvi : (vs.length : Int) < (vs.length : Int) + 1 := by omega
          have hcza : ∀ o, (w1.alloc o).cell? ⟨ad.block, ad.off + (j + 1), none⟩ = some (.int .i64 z) := fun o => HC.out _ (HB1.out.alloc HB1.out.size o)
          have q0a : ∀ o, (w1.alloc o).cell? ⟨g, vs.length, none⟩ = some (.slice (some ⟨wr.heap.size, 0, none⟩) 0 0) := fun o => by rw [(below1 w1 o).cell (by exact hgs1)]; exact q0
          go_region_law (refine step_app1 T_int (B := wr.heap.size) (W := w1.drew) (v := .slice (some ⟨wr.heap.size, 0, none⟩) 0 0) (vs := []) HLI.out.1 (by simp) (by exact HSL.out) (by rfl) rfl (by rfl) (by rfl) (by rfl) ?_; intro u1 w2 hown2 hgr2; obtain ⟨A2, c2, hu1, -, -⟩ := hown2.cells.open_; subst hu1; obtain ⟨⟨u0, q1⟩, q2, hs2⟩ := HS1.out.ready (w1 := w2) (m := vs.length) (zs1 := [z - 1]) (by simp) HU.out HZS.out ⟨by simpa [ints] using hown2, fun y hy => by simp at hy; subst hy; exact hz64⟩ hgr2.1; have HS2 := Lib.hid hs2; have HB2 := Lib.hid (Grow.below (W := w1.drew) (w' := w2) (v := .slice (some ⟨wr.heap.size, 0, none⟩) 0 0) hgr2 HB1D.out HB1D.out.size (fun b hb => by simp [Value.ownBlock] at hb; have := HBW.out.size; omega)); have hgs2 : g < w2.heap.size := Nat.lt_of_lt_of_le hgs hgr2.1.size; clear hs2 hown2 hgr2)
          all_goals
            clear q0 q1 q2 hcz
            go_wp2_with fail
            go_roundw
            case rel =>
              have e : (oj ++ [[0]]).map up = (oj.map up ++ [[]]).set vs.length [z - 1] := by
                have hl := HS.out.rows.1
                rw [hl, HE.out]
                simp [up]
              have hfin := HS2.out
              rw [← e] at hfin
              exact ⟨j + 1, _, _, _, by omega, by go_num, HO'.out, by simp; omega, hfin, HB2.out.setCell (p := ⟨g, vs.length, none⟩) HGE.out _⟩
            case measure => simp [intOf]; omega
        · have hd : (z == 1) = false := by rw [hzl]; simp; omega
          have HE := Lib.hid (show z - 1 = ((l - 1 : Nat) : Int) by rw [hzl]; omega)
          have hz64 : In64 (z - 1) := by unfold In64; omega
          have hvn : vs.length = n + 1 := by rw [HS.out.rows.1]; simp [hn']
          have hnn : n + 1 ≤ 1000 := by omega
          have HBB := Lib.hid hb'
          have HOL := Lib.hid hn'
          have HVN := Lib.hid hvn
          have HVJ := Lib.hid hvj
          clear hst hlj h2 hzl hb' hn' hvj
          obtain ⟨g, cap, u, zs, hv1, k1, k2, hu, hzs, hlast, q0⟩ := HS.out.openLast hvn
          subst hv1
          have HZS := Lib.hid (show zs = up b by simp [HBB.out] at hzs; exact hzs.symm)
          have HZ2 := Lib.hid hzs
          have HU := Lib.hid hu
          have HLA := Lib.hid hlast
          have hgs : g < wr.heap.size := World.block_lt_of_cell? wr _ q0
          have hbl : zs.length ≤ 1048576 := by
            have h1 := brF_tot hO.out
            have h2 := brLen_mem HBB.out
            rw [HZS.out, up_len]
            simp [brLen] at h1
            omega
          have hw2 : IntKind.i64.wrap ((n : Int) + 1 - 1) = (n : Int) := by rw [IntWalk.i64_in _ (by omega)]; omega
          have hvi : (n : Int) < (n : Int) + 1 := by omega
          have hcza : ∀ o, (wr.alloc o).cell? ⟨ad.block, ad.off + (j + 1), none⟩ = some (.int .i64 z) := fun o => HC.out _ (HBW.out.alloc HBW.out.size o)
          have q0a : ∀ o, (wr.alloc o).cell? ⟨g, n, none⟩ = some u := fun o => by rw [(below1 wr o).cell (by exact hgs)]; exact q0
          have HSD := Lib.hid (HS.out.below ((Below.refl _ _).drew))
          have HLD := Lib.hid (HLA.out.below ((Below.refl wr.heap.size wr).drew))
          have HBD := Lib.hid HBW.out.drew
          have HMS := Lib.hid HS.out.lt
          have HMB := Lib.hid HS.out.le
          clear hu hzs hlast hvn
          go_wp2_with fail
          go_region_law (refine step_app1 T_int (B := M) (W := wr.drew) (v := u) (vs := ints zs) HLD.out.1 (by rw [ints_len]; omega) (by exact HMS.out) (by rfl) rfl (by rfl) (by rfl) (by rfl) ?_; intro u1 w2 hown2 hgr2; obtain ⟨A2, c2, hu1, -, -⟩ := hown2.cells.open_; subst hu1; obtain ⟨⟨u0, q1⟩, q2, hs2⟩ := HSD.out.ready (m := n) (zs1 := zs ++ [z - 1]) HVN.out HU.out HZ2.out ⟨by simpa [ints] using hown2, fun y hy => by rcases List.mem_append.1 hy with hy | hy; exact HLA.out.2 y hy; simp at hy; subst hy; exact hz64⟩ hgr2.1; have HS2 := Lib.hid hs2; have HB2 := Lib.hid (hgr2.below HBD.out HBD.out.size (fun b hb => Nat.le_trans HMB.out (HLA.out.1.ge b hb))); have hgs2 : g < w2.heap.size := Nat.lt_of_lt_of_le hgs hgr2.1.size; have HGE := Lib.hid (HS.out.own.ge g rfl); clear hs2 hown2 hgr2)
          all_goals
            clear q0 q1 q2 hc
            go_wp2_with fail
            go_roundw
            case rel =>
              have e : (oj.set n (b ++ [l - 1])).map up = (oj.map up).set n (zs ++ [z - 1]) := by
                rw [HZS.out, HE.out, List.map_set, up_append]; rfl
              have hfin := HS2.out
              rw [← e, ← ints_len zs] at hfin
              exact ⟨j + 1, _, _, _, by omega, by go_num, HO'.out, by rw [List.length_set]; have := HVJ.out; omega, hfin, HB2.out.setCell (p := ⟨g, n, none⟩) HGE.out _⟩
            case measure => simp [intOf]; omega
      · have : j = ts.length := by omega
        subst this
        rw [List.take_length] at hO
        have HE := Lib.hid (show oj = bs from by have h := hO.out; rw [HB.out] at h; injection h with h; exact h.symm)
        go_wp2_with fail
        go_ret
        exact ⟨_, rfl, ⟨vs, HS.out.own, by rw [← HE.out]; exact HS.out.rows⟩, HBW.out⟩
end Go.Proofs.YtdjhfeaimmpmhaaGreat

set_option maxRecDepth 100000
set_option linter.unusedVariables false
set_option linter.unusedSimpArgs false
namespace Go.Proofs.YtdjhfeaimmpmhaaGreat
open Go.RowKit

def cmpZ (x y : Int) : Int := if x < y then -1 else if y < x then 1 else 0
/-- the comparison of two lists -/
def cmpL : List Int → List Int → Int
  | [], [] => 0
  | [], _ :: _ => -1
  | _ :: _, [] => 1
  | x :: xs, y :: ys => if x < y then -1 else if y < x then 1 else cmpL xs ys
def lessL (a b : List Int) : Bool := decide (cmpL a b < 0)
theorem cmpL_nil_left {b : List Int} : cmpL [] b = if 0 < b.length then -1 else 0 := by cases b <;> simp [cmpL]
theorem cmpL_nil_right {a : List Int} (h : 0 < a.length) : cmpL a [] = 1 := by
  cases a with
  | nil => simp at h
  | cons x xs => rfl
theorem cmpL_step {a b : List Int} {k : Nat} {x y : Int} (hx : a[k]? = some x) (hy : b[k]? = some y) : cmpL (a.drop k) (b.drop k) = if x < y then -1 else if y < x then 1 else cmpL (a.drop (k + 1)) (b.drop (k + 1)) := by
  have ha := (List.getElem?_eq_some_iff.1 hx).1
  have hb := (List.getElem?_eq_some_iff.1 hy).1
  rw [List.drop_eq_getElem_cons ha, List.drop_eq_getElem_cons hb]
  have e1 : a[k] = x := by rw [List.getElem?_eq_getElem ha] at hx; simpa using hx
  have e2 : b[k] = y := by rw [List.getElem?_eq_getElem hb] at hy; simpa using hy
  rw [e1, e2, cmpL]

set_option maxHeartbeats 400000 in
theorem lib_isNaN (x : Int) (w : World) : Calls Tryz.prog 228 #[.int .i64 x] w fun e w' => e = .returned (.bool false) ∧ w = w' := by
  go_enter Tryz.func228, Tryz.ntmps228
  go_wp2
  go_ret
  exact ⟨ret_bool (by simp), rfl⟩

set_option maxHeartbeats 400000 in
theorem lib_cmp (x y : Int) (w : World) : Calls Tryz.prog 202 #[.int .i64 x, .int .i64 y] w fun e w' => e = .returned (.int .i64 (cmpZ x y)) ∧ w = w' := by
  go_enter Tryz.func202, Tryz.ntmps202
  by_cases h1 : x < y
  · have h2 : ¬ y < x := by omega
    go_wp2_with (go_at_call 228; refine (lib_isNaN _ _).mono ?_; rintro e w' ⟨rfl, rfl⟩)
    go_ret
    exact ⟨ret_int (by simp [cmpZ, h1]), rfl⟩
  · by_cases h2 : y < x
    · go_wp2_with (go_at_call 228; refine (lib_isNaN _ _).mono ?_; rintro e w' ⟨rfl, rfl⟩)
      go_ret
      exact ⟨ret_int (by simp [cmpZ, h1, h2]), rfl⟩
    · go_wp2_with (go_at_call 228; refine (lib_isNaN _ _).mono ?_; rintro e w' ⟨rfl, rfl⟩)
      go_ret
      exact ⟨ret_int (by unfold cmpZ; rw [if_neg (by omega), if_neg (by omega)]), rfl⟩

set_option maxHeartbeats 1000000 in
theorem lib_Compare (w : World) (v v' : Value) (a b : List Int) (ha : Ints w v a) (hb : Ints w v' b) :
    Calls Tryz.prog 168 #[v, v'] w fun e w' => e = .returned (.int .i64 (cmpL a b)) ∧ w = w' := by
  obtain ⟨A, c, rfl, l1, l2, h3⟩ := ha.open_
  obtain ⟨B, d, rfl, m1, m2, g3⟩ := hb.open_
  have H3 := Lib.hid h3
  have G3 := Lib.hid g3
  clear ha hb h3 g3
  go_enter Tryz.func168, Tryz.ntmps168
  go_wp2_with fail
  go_loop [11] (fun i => ∃ k : Nat, k ≤ a.length ∧ k ≤ b.length ∧ i = .int .i64 k ∧ Hid (cmpL a b = cmpL (a.drop k) (b.drop k))) (fun i => a.length - (intOf i).toNat)
  case atStart => exact ⟨0, Nat.zero_le _, Nat.zero_le _, rfl, (rfl : cmpL a b = cmpL (a.drop 0) (b.drop 0))⟩
  case round =>
    obtain ⟨k, hk, hkb, rfl, hI⟩ := hrel
    by_cases hlt : k < a.length
    · obtain ⟨ad, x, rfl, hx, -, hcx⟩ := H3.out k hlt
      by_cases hlb : k < b.length
      · obtain ⟨ad', y, rfl, hy, -, hcy⟩ := G3.out k hlb
        have HS := Lib.hid (hI.out.trans (cmpL_step hx hy))
        have hng : ¬ (b.length : Int) ≤ (k : Int) := by omega
        clear hx hy
        by_cases h1 : x < y
        · have hz : cmpZ x y = -1 := by simp [cmpZ, h1]
          have HR := Lib.hid (show cmpL a b = -1 by rw [HS.out, if_pos h1])
          go_wp2_with (go_at_call 202; refine (lib_cmp _ _ _).mono ?_; rintro e w' ⟨rfl, rfl⟩; rw [hz])
          go_ret
          exact ⟨ret_int HR.out.symm, rfl⟩
        · by_cases h2 : y < x
          · have hz : cmpZ x y = 1 := by simp [cmpZ, h1, h2]
            have HR := Lib.hid (show cmpL a b = 1 by rw [HS.out, if_neg h1, if_pos h2])
            go_wp2_with (go_at_call 202; refine (lib_cmp _ _ _).mono ?_; rintro e w' ⟨rfl, rfl⟩; rw [hz])
            go_ret
            exact ⟨ret_int HR.out.symm, rfl⟩
          · have hz : cmpZ x y = 0 := by simp [cmpZ, h1, h2]
            have HR := Lib.hid (show cmpL a b = cmpL (a.drop (k + 1)) (b.drop (k + 1)) by rw [HS.out, if_neg h1, if_neg h2])
            go_wp2_with (go_at_call 202; refine (lib_cmp _ _ _).mono ?_; rintro e w' ⟨rfl, rfl⟩; rw [hz])
            go_round
            case rel => exact ⟨k + 1, by omega, by omega, by go_num, HR.out⟩
            case measure => simp [intOf]; omega
      · have hkb2 : k = b.length := by omega
        have HR := Lib.hid (show cmpL a b = 1 by rw [hI.out, hkb2, List.drop_length, cmpL_nil_right (by simp; omega)])
        have hng : (b.length : Int) ≤ (k : Int) := by omega
        clear hkb2 hx
        go_wp2_with fail
        go_ret
        exact ⟨ret_int HR.out.symm, rfl⟩
    · have hka : k = a.length := by omega
      have HR := Lib.hid (show cmpL a b = if 0 < (b.drop k).length then -1 else 0 by rw [hI.out, hka, List.drop_length, cmpL_nil_left])
      have hna : ¬ (k : Int) < (a.length : Int) := by omega
      by_cases hlb : (a.length : Int) < (b.length : Int)
      · have HR2 := Lib.hid (show cmpL a b = -1 by rw [HR.out, if_pos (by simp; omega)])
        clear hka
        go_wp2_with fail
        go_ret
        exact ⟨ret_int HR2.out.symm, rfl⟩
      · have HR2 := Lib.hid (show cmpL a b = 0 by rw [HR.out, if_neg (by simp; omega)])
        clear hka
        go_wp2_with fail
        go_ret
        exact ⟨ret_int HR2.out.symm, rfl⟩

set_option maxHeartbeats 1000000 in
theorem s_l01Less (w : World) (v v' : Value) (a b : List Int) (ha : Ints w v a) (hb : Ints w v' b) :
    Calls Tryz.prog 214 #[v, v'] w fun e w' => e = .returned (.bool (lessL a b)) ∧ ∃ n, w' = w.drewN n := by
  obtain ⟨A, c, rfl, l1, l2, h3⟩ := ha.open_
  obtain ⟨B, d, rfl, m1, m2, g3⟩ := hb.open_
  have H3 := Lib.hid h3
  have G3 := Lib.hid g3
  clear ha hb h3 g3
  go_enter Tryz.func214, Tryz.ntmps214
  go_wp2_with fail
  go_loopw [5] (fun i wr => ∃ k n : Nat, k ≤ a.length ∧ k ≤ b.length ∧ i = .int .i64 k ∧ Hid (cmpL a b = cmpL (a.drop k) (b.drop k)) ∧ wr = w.drewN n) (fun i _ => a.length - (intOf i).toNat)
  case atStart => exact ⟨0, 0, Nat.zero_le _, Nat.zero_le _, rfl, (rfl : cmpL a b = cmpL (a.drop 0) (b.drop 0)), rfl⟩
  case round =>
    obtain ⟨k, n, hk, hkb, rfl, hI, rfl⟩ := hrel
    by_cases hlt : k < a.length
    · obtain ⟨ad, x, rfl, hx, -, hcx⟩ := H3.out k hlt
      by_cases hlb : k < b.length
      · obtain ⟨ad', y, rfl, hy, -, hcy⟩ := G3.out k hlb
        have HS := Lib.hid (hI.out.trans (cmpL_step hx hy))
        have hka' : (k : Int) < (a.length : Int) := by omega
        have hkb' : (k : Int) < (b.length : Int) := by omega
        clear hx hy
        by_cases h0 : x = y
        · have HR := Lib.hid (show cmpL a b = cmpL (a.drop (k + 1)) (b.drop (k + 1)) by rw [HS.out, if_neg (by omega), if_neg (by omega)])
          subst h0
          go_wp2_with fail
          go_quiet (fail)
          go_wp2_with fail
          go_roundw
          case rel => exact ⟨k + 1, _, by omega, by omega, by go_num, HR.out, rfl⟩
          case measure => simp [intOf]; omega
        · have HR := Lib.hid (show lessL a b = decide (x < y) by
            unfold lessL
            rw [HS.out]
            by_cases h1 : x < y
            · rw [if_pos h1]; simp [h1]
            · rw [if_neg h1, if_pos (by omega)]; simp [h1])
          go_wp2_with fail
          go_quiet (fail)
          go_wp2_with fail
          go_quiet (fail)
          go_wp2_with fail
          go_ret
          exact ⟨ret_bool HR.out.symm, _, by rw [World.drewN_drewN, World.drewN_drewN]⟩
      · have HR := Lib.hid (show lessL a b = decide (a.length < b.length) by
          unfold lessL
          rw [hI.out, show k = b.length by omega, List.drop_length, cmpL_nil_right (by simp; omega)]
          simp
          omega)
        have hng : ¬ (k : Int) < (b.length : Int) := by omega
        have hka' : (k : Int) < (a.length : Int) := by omega
        clear hx
        go_wp2_with fail
        go_ret
        exact ⟨ret_bool HR.out.symm, _, rfl⟩
    · have HR := Lib.hid (show lessL a b = decide (a.length < b.length) by
        unfold lessL
        rw [hI.out, show k = a.length by omega, List.drop_length, cmpL_nil_left]
        by_cases h : a.length < b.length
        · rw [if_pos (by simp; omega)]; simp [h]
        · rw [if_neg (by simp; omega)]; simp; omega)
      have hna : ¬ (k : Int) < (a.length : Int) := by omega
      go_wp2_with fail
      go_ret
      exact ⟨ret_bool HR.out.symm, _, rfl⟩
end Go.Proofs.YtdjhfeaimmpmhaaGreat

