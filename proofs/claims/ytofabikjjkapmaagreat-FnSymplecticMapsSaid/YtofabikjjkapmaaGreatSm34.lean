import Derived.Test.YtofabikjjkapmaaGreatSm33
import Derived.Test.YtofabikjjkapmaaGreatSm32
set_option maxRecDepth 100000
set_option linter.unusedVariables false
set_option linter.unusedSimpArgs false
namespace Go.Proofs.YtofabikjjkapmaaGreat
open Go.RowKit
section
variable {w w' : World} {B N p : Nat} {e t : TypeId} {v va vb : Value} {vs : List Value} {cs : Array Value} {rows : List (List Int)} {Bs : List Int}
theorem Own.ne_blk (h : Own w B e v vs) (hk : Blk w p t cs) (hne : e ≠ t) : v.ownBlock ≠ some p := by
 intro hb
 rcases h.cases with ⟨rfl, _⟩ | ⟨g, cap, cur, rfl, _, _, hg, _⟩
 · simp [Value.ownBlock] at hb
 · simp [Value.ownBlock] at hb
   subst hb
   have h2 : w.heap[g]? = some (.cells cs t (0, 0)) := hk
   rw [hg] at h2
   simp at h2
   exact hne h2.2
theorem Two.storeAt (h : Two w N va vb vs rows Bs) (hk : Blk w p t cs) (h1 : tL ≠ t) (h2 : tI ≠ t) (i : Nat) (u : Value) : Two (w.setCell ⟨p, i, none⟩ u) N va vb vs rows Bs := by
 have hh : ∀ b, b ≠ p -> (w.setCell ⟨p, i, none⟩ u).heap[b]? = w.heap[b]? := fun b hb => Below.heap_setCell w ⟨p, i, none⟩ u b hb
 have hs : (w.setCell ⟨p, i, none⟩ u).heap.size = w.heap.size := by simp [World.setCell]
 refine ⟨h.own.of_block fun b hb => hh b (fun e => h.own.ne_blk hk h1 (e ▸ hb)), ?_, ⟨h.ws.1.of_block fun b hb => hh b (fun e => h.ws.1.ne_blk hk h2 (e ▸ hb)), h.ws.2⟩, h.ap⟩
 rw [hs]
 exact ⟨h.rows.1, fun k u' zs hu hz => ⟨⟨(h.rows.2.1 k u' zs hu hz).1.1.of_block fun b hb => hh b (fun e => (h.rows.2.1 k u' zs hu hz).1.1.ne_blk hk h2 (e ▸ hb)), (h.rows.2.1 k u' zs hu hz).1.2⟩, (h.rows.2.1 k u' zs hu hz).2⟩, h.rows.2.2⟩
end
structure ColS (w0 w : World) (p : Nat) (vc vb : Value) (vs : List Value) (rows : List (List Int)) (Bs : List Int) : Prop where
 two : Two w (w0.heap.size + 1) vc vb vs rows Bs
 blk : Blk w p 37 #[.slice none 0 0, vb]
 below : Below w0.heap.size w0 w
section
variable {w0 w w' w1 : World} {p : Nat} {vc vb v1 r : Value} {vs : List Value} {rows : List (List Int)} {zs Bs : List Int} {z : Int}
end
structure ColT (w4 w : World) (p : Nat) (va vb : Value) (vs : List Value) (rows : List (List Int)) : Prop where
 g : w4.grownBy w (some p)
 blk : Blk w p 37 #[va, vb]
 own : Own w w4.heap.size tL va vs
 rows : RowsOwn w w4.heap.size w.heap.size tI vs rows
section
variable {w0 w4 w w5 w6 : World} {p : Nat} {va vb v1 r : Value} {vs : List Value} {rows : List (List Int)} {zs : List Int}
end
structure FillT (w0 w : World) (p : Nat) (va vb : Value) (vs : List Value) (rows : List (List Int)) (Bs : List Int) : Prop where
 two : Two w (w0.heap.size + 1) va vb vs rows Bs
 blk : Blk w p 37 #[va, vb]
 ge : w0.heap.size + 1 <= p
 below : Below w0.heap.size w0 w
section
variable {w0 w w5 w6 : World} {p : Nat} {va vb v1 r : Value} {vs : List Value} {rows : List (List Int)} {zs Bs : List Int}
end
structure Env (w0 w : World) (c0 c1 c2 : Array Value) : Prop where
 k0 : Blk w w0.heap.size 37 c0
 k1 : Blk w (w0.heap.size + 1) 37 c1
 k2 : Blk w (w0.heap.size + 1 + 1) 37 c2
 below : Below w0.heap.size w0 w
section
variable {w0 w w' : World} {c0 c1 c2 : Array Value} {v v' : Value} {vs : List Value} {B p : Nat} {e : TypeId}
end
set_option maxHeartbeats 4000000 in
theorem s_l01List (w : World) (B p N : Nat) (h : Src w B tSc p) (hN : N <= 1000) :
  Calls Tryz.prog 125 #[at0 p, .int .i64 (N : Nat)] w fun e w' => ∃ x, e = .returned x /\ ∃ zs, OwnInts w' w.heap.size tI x zs /\ zs.length = N /\ Nums zs /\ w.grownBy w' (some p) /\ Src w' B tSc p := by
 have HS := Lib.hid h
 have hpl := h.lt
 have OL := Lib.hid (show Own (w.alloc (.cells #[] tI)) w.heap.size tI (.slice (some ⟨w.heap.size, 0, none⟩) 0 0) (ints []) from own_lit w tI [] (by simp [maxLen]))
 have HS1 := Lib.hid (h.below (below1 w (.cells #[] tI)))
 have HG1 := Lib.hid (show w.grownBy (w.alloc (.cells #[] tI)) (some p) from gof (below1 w _))
 have HF := Lib.hid (show Nums [] from fun z hz => by simp at hz)
 clear h
 go_enter Tryz.func125, Tryz.ntmps125
 go_wp2_with fail
 go_loopw [5, 1] (fun o x wr => ∃ (zs : List Int) (m : Nat), Hid (zs.length + m = N) /\ x = .int .i64 m /\ m <= 1000 /\ zs.length <= 1000 /\ Own wr w.heap.size tI o (ints zs) /\ Hid (Nums zs) /\ w.grownBy wr (some p) /\ Src wr B tSc p) (fun _ x _ => (intOf x).toNat)
 case atStart => exact ⟨[], N, by show 0 + N = N; omega, rfl, hN, by simp, OL.out, HF.out, HG1.out, HS1.out⟩
 case round =>
  obtain ⟨zs, m, HM, rfl, hm, hz2, ho, HZ, hg, hs⟩ := hrel
  rename World => wq
  clear OL HS1 HG1 HF
  have HO := Lib.hid ho
  have HG := Lib.hid hg
  have HS := Lib.hid hs
  obtain ⟨Ao, co, heo, -, -⟩ := ho.cells.open_
  rw [ints_len] at heo
  subst heo
  have hwq := hg.size
  clear ho hg hs
  by_cases hlt : 0 < m
  · have hll : (0 : Int) < (m : Int) := by omega
    have hmd : decide (0 < m) = true := decide_eq_true hlt
    go_wp2_with (first
     | (go_at_call 114; go_loud (refine (s_l01Number _ B p HS.out).mono ?_; rintro e w5 ⟨x5, rfl, hx, hg5, hs5⟩; have HO5 := Lib.hid (HO.out.src hpl hg5); have HG5 := Lib.hid (gtrans HG.out hg5); have HS5 := Lib.hid hs5; have HX5 := Lib.hid hx; clear hg5 hs5 hx))
     | (at_builtin; go_loud (refine wpList_app1 T_int HO5.out (by rw [ints_len]; omega) HG5.out.size (by rfl) rfl (by rfl) (by rfl) (by rfl) ?_; intro v7 w7 hown7 hgr7; have HN7 := Lib.hid hown7; have HR7 := Lib.hid hgr7; clear hown7 hgr7)))
    have HGA := Lib.hid (gthen HG5.out HR7.out.1 HO5.out.ge)
    have hne : (Value.slice Ao zs.length co).ownBlock ≠ some p := fun e => by have := HO5.out.ge _ e; omega
    have HSA := Lib.hid (HS5.out.kept HR7.out.1 hne (fun b hb => Nat.le_trans (Nat.le_trans HS5.out.ge (Nat.le_of_lt hpl)) (HO5.out.ge b hb)))
    clear hne
    go_roundw
    case rel =>
     have hm0 := HM.out
     refine ⟨zs ++ [x5], m - 1, by show (zs ++ [x5]).length + (m - 1) = N; rw [List.length_append, List.length_singleton]; omega, ?_, by omega, by rw [List.length_append, List.length_singleton]; omega, by simpa [ints] using HN7.out, fun z hz => ?_, HGA.out, HSA.out⟩
     · rw [show ((m - 1 : Nat) : Int) = (m : Int) - 1 by omega]
     rcases List.mem_append.1 hz with h | h
     · exact HZ.out z h
     · have := HX5.out; simp at h; omega
    case measure => simp [intOf]; omega
  · have hm0 : m = 0 := by omega
    subst hm0
    have HNL := Lib.hid (show zs.length = N from HM.out)
    go_wp2_with fail
    go_ret
    exact ⟨_, rfl, zs, ⟨HO.out, fun z hz => by have := HZ.out z hz; unfold In64; omega⟩, HNL.out, HZ.out, HG.out, HS.out⟩
theorem chgD {w w' : World} {g : Nat} (h : w.grownBy w' (some g)) : Chg g (g + 1) w w' := ⟨h.os, h.tape, h.output, h.size, fun k hk hd => h.block k hk (by intro e; injection e with e; omega)⟩
section
variable {w w' : World} {N p g n cap k : Nat} {va vb v1 r : Value} {vs : List Value} {rows : List (List Int)} {zs Bs : List Int} {z : Int}
theorem Two.srcD (h : Two w N va vb vs rows Bs) (hg : w.grownBy w' (some p)) (hp : p < N) : Two w' N va vb vs rows Bs := h.kept (chgD hg) hp
theorem Blk.srcD {t : TypeId} {cs : Array Value} {q : Nat} (h : Blk w q t cs) (hg : w.grownBy w' (some p)) (hne : q ≠ p) : Blk w' q t cs := (hg.block q h.lt (by intro e; injection e with e; exact hne e)).trans h
end
theorem own_openD {w : World} {C n : Nat} {v : Value} {us : List Int} (h : OwnInts w C tI v us) (hl : Nl n us) (hn : 1 <= n) : ∃ g cap, v = .slice (some ⟨g, 0, none⟩) n cap := by
 rcases h.1.cases with ⟨-, he⟩ | ⟨g, cap, cur, he, -⟩
 · have h1 := congrArg List.length he; rw [ints_len, hl.1] at h1; simp at h1; omega
 · rw [ints_len, hl.1] at he; exact ⟨g, cap, he⟩
theorem nl_set {n : Nat} {us : List Int} (h : Nl n us) {z : Int} (hz : 0 <= z /\ z <= 10006) (k : Nat) : Nl n (us.set k z) := ⟨by rw [List.length_set]; exact h.1, fun y hy => by
 rcases List.mem_or_eq_of_mem_set hy with h1 | rfl
 · exact h.2 y h1
 · exact hz⟩
structure DrS (w0 w : World) (B p q : Nat) (va vb : Value) (vs : List Value) (m n : Nat) : Prop where
 ex : ∃ rows Bs, Two w (w0.heap.size + 1) va vb vs rows Bs /\ Sqm m n rows /\ Nl n Bs
 blk : Blk w q tTb #[va, vb]
 res : Blk w w0.heap.size tTb #[.slice none 0 0, .slice none 0 0]
 ge : w0.heap.size + 1 <= q
 gr : w0.grownBy w (some p)
 src : Src w B tSc p
section
variable {w0 w w5 w6 : World} {B p q m n : Nat} {va vb v1 r : Value} {vs : List Value} {zs : List Int}
theorem DrS.draw (h : DrS w0 w B p q va vb vs m n) (hp : p < w0.heap.size) (hg : w.grownBy w5 (some p)) (hs : Src w5 B tSc p) : DrS w0 w5 B p q va vb vs m n := by
 obtain ⟨rows, Bs, h1, h2, h3⟩ := h.ex
 exact ⟨⟨rows, Bs, h1.srcD hg (by omega), h2, h3⟩, h.blk.srcD hg (by have := h.ge; omega), h.res.srcD hg (by omega), h.ge, gtrans h.gr hg, hs⟩
theorem DrS.lenA (h : DrS w0 w B p q va vb vs m n) : vs.length = m := by
 obtain ⟨rows, Bs, h1, h2, h3⟩ := h.ex
 exact h1.rows.1.trans h2.1
theorem DrS.ownA (h : DrS w0 w B p q va vb vs m n) : Own w (w0.heap.size + 1) tL va vs := by
 obtain ⟨rows, Bs, h1, h2, h3⟩ := h.ex
 exact h1.own
theorem DrS.next (h : DrS w0 w B p q va vb vs m n) (hp : p < w0.heap.size) (hg : w.grownBy w5 (some p)) (hs : Src w5 B tSc p) (ho : OwnInts w5 w.heap.size tI r zs) (hz : Nl n zs)
  (hown : Own w6 (w0.heap.size + 1) tL v1 (vs ++ [r])) (hgr : Grow w5 w6 va v1) : DrS w0 (w6.setCell ⟨q, 0, none⟩ v1) B p q v1 vb (vs ++ [r]) (m + 1) n := by
 have h5 := h.draw hp hg hs
 obtain ⟨rows, Bs, h1, h2, h3⟩ := h.ex
 have h1' := h1.srcD (p := p) hg (by omega)
 have hnp : va.ownBlock ≠ some q := h5.ownA.ne_blk h5.blk (by decide)
 have hnr : va.ownBlock ≠ some w0.heap.size := fun e => by have := h5.ownA.ge _ e; omega
 have hk := h5.blk.grow hgr hnp
 have hrs := h5.res.grow hgr hnr
 have hN : w0.heap.size + 1 <= w.heap.size := by have := h.ge; have := h.blk.lt; omega
 have hap := h1.rows.apart (M := 0) (u' := r) (fun b hb => .inl (ho.1.ge b hb))
 have hrb : Apart r vb := by
  unfold Apart
  cases hr : r.ownBlock with
  | none => exact .inl rfl
  | some b =>
   refine .inr fun e => ?_
   have a1 := ho.1.ge b hr
   have a2 := h1.ws.1.lt b e.symm
   omega
 have h6 := (h1'.addA ⟨ho.mono hN, ho.1.lt⟩ hap hrb hown hgr).storeAt hk (by decide) (by decide) 0 v1
 have hgo : ∀ b, va.ownBlock = some b -> w0.heap.size <= b := fun b hb => by have := h5.ownA.ge b hb; omega
 have g6 : w0.grownBy w6 (some p) := gthen h5.gr hgr.1 hgo
 have g7 : w0.grownBy (w6.setCell ⟨q, 0, none⟩ v1) (some p) := gthen g6 (gset w6 q 0 v1) (by rintro b ⟨⟩; have := h.ge; omega)
 have s6 : Src w6 B tSc p := h5.src.kept hgr.1 (fun e => by have := h5.ownA.ge _ e; omega) (fun b hb => by have := hgo b hb; have := h5.src.ge; omega)
 have s7 := s6.kept (gset w6 q 0 v1) (by intro e; injection e with e; have := h.ge; omega) (by rintro b ⟨⟩; have := h.ge; have := h5.src.ge; omega)
 refine ⟨⟨_, _, h6, h2.snoc hz, h3⟩, ?_, hrs.far (p := ⟨q, 0, none⟩) (by have := h.ge; simp; omega) v1, h.ge, g7, s7⟩
 have := hk.set_ 0 v1
 simpa using this
theorem DrS.ws (h : DrS w0 w B p q va vb vs m n) : ∃ Bs, Ints w vb Bs /\ Nl n Bs := by
 obtain ⟨rows, Bs, h1, h2, h3⟩ := h.ex
 exact ⟨Bs, h1.ws.ints, h3⟩
theorem DrS.fin (h : DrS w0 w B p q va vb vs n n) (hp : p < w0.heap.size) :
  DT ((w.setCell ⟨w0.heap.size, 0, none⟩ va).setCell ⟨w0.heap.size, 1, none⟩ vb) w0.heap.size (.agg #[va, vb]) n /\ w0.grownBy ((w.setCell ⟨w0.heap.size, 0, none⟩ va).setCell ⟨w0.heap.size, 1, none⟩ vb) (some p) /\ Src ((w.setCell ⟨w0.heap.size, 0, none⟩ va).setCell ⟨w0.heap.size, 1, none⟩ vb) B tSc p := by
 obtain ⟨rows, Bs, h1, h2, h3⟩ := h.ex
 have h4 := h1.storeAt h.res (by decide) (by decide) 0 va
 have r4 := h.res.set_ 0 va
 have h5 := h4.storeAt r4 (by decide) (by decide) 1 vb
 have g1 := gthen h.gr (gset w w0.heap.size 0 va) (by rintro b ⟨⟩; omega)
 have g2 := gthen g1 (gset _ w0.heap.size 1 vb) (by rintro b ⟨⟩; omega)
 have s1 := h.src.kept (gset w w0.heap.size 0 va) (by intro e; injection e with e; omega) (by rintro b ⟨⟩; have := h.src.ge; omega)
 have s2 := s1.kept (gset _ w0.heap.size 1 vb) (by intro e; injection e with e; omega) (by rintro b ⟨⟩; have := h.src.ge; omega)
 exact ⟨⟨rows, Bs, h5.tab.mono (Nat.le_succ _) (Nat.le_refl _), h2, h3⟩, g2, s2⟩
end
theorem addr_addT (g n : Nat) : (⟨g, 0, none⟩ : Addr).add n = ⟨g, n, none⟩ := by by_cases h0 : n = 0 <;> simp [Addr.add, h0]
theorem DrS.init {w w4 : World} {B p n C : Nat} {vb : Value} {zs : List Int} (hk : Blk w4 w.heap.size tTb #[.slice none 0 0, .slice none 0 0]) (hg : w.grownBy w4 (some p)) (hs : Src w4 B tSc p) (ho : OwnInts w4 C tI vb zs) (hC : w.heap.size + 1 <= C) (hz : Nl n zs) :
  DrS w (w4.alloc (.cells #[.slice none 0 0, vb] tTb)) B p w4.heap.size (.slice none 0 0) vb [] 0 n := by
 have hb := below1 w4 (.cells #[.slice none 0 0, vb] tTb)
 have hlt := hk.lt
 exact ⟨⟨[], zs, ⟨Own.nil _ _ _, RowsOwn.nil _ _ _ _, (ho.mono hC).below hb, fun k u hu => by simp at hu⟩, Sqm.nil _, hz⟩, Blk.new _ _ _, hk.below hb hlt, by omega, gtrans hg (gof hb), hs.below hb⟩
def RwS (wi wx : World) (B p : Nat) (r : Value) (n : Nat) : Prop := (∃ zs, OwnInts wx wi.heap.size tI r zs /\ Nl n zs) /\ wi.grownBy wx (some p) /\ Src wx B tSc p
theorem RwS.storeZ {wi wx : World} {B p g n cap k : Nat} {z : Int} (h : RwS wi wx B p (.slice (some ⟨g, 0, none⟩) n cap) n) (hp : p < wi.heap.size) (hk : k < n) (hz0 : 0 <= z /\ z <= 10006) :
  (∃ u0, wx.cell? ⟨g, k, none⟩ = some u0) /\ wx.frozen? ⟨g, k, none⟩ = false /\ RwS wi (wx.setCell ⟨g, k, none⟩ (.int .i64 z)) B p (.slice (some ⟨g, 0, none⟩) n cap) n := by
 obtain ⟨⟨zs, ho, hz⟩, hg, hs⟩ := h
 obtain ⟨u0, hu0, hcg, hfg, hg2, hg1, hown', hgr⟩ := ho.1.storeAt (k := k) (by rw [ints_len, hz.1]; exact hk) (.int .i64 z)
 refine ⟨⟨u0, hcg⟩, hfg, ⟨zs.set k z, ⟨?_, (nl_set hz hz0 k).in64⟩, nl_set hz hz0 k⟩, gthen hg hgr (by rintro b ⟨⟩; omega), hs.kept hgr (by intro e; injection e with e; omega) (by rintro b ⟨⟩; have := hs.ge; omega)⟩
 rw [show ints (zs.set k z) = (ints zs).set k (.int .i64 z) by simp [ints, List.map_set]]
 exact hown'
theorem RwS.drew {wi wx : World} {B p n : Nat} {r : Value} (h : RwS wi wx B p r n) (hp : wi.heap.size <= wx.heap.size) : RwS wi wx.drew B p r n := by
 obtain ⟨⟨zs, ho, hz⟩, hg, hs⟩ := h
 have hbd : Below wx.heap.size wx wx.drew := (Below.refl _ _).drew
 exact ⟨⟨zs, ho.below hbd, hz⟩, gtrans hg (gof hbd), hs.below hbd⟩
theorem RwS.new {wi w6 : World} {B p n : Nat} (hs : Src wi B tSc p) (ho : Own w6 wi.heap.size tI (.slice (some ⟨wi.heap.size, 0, none⟩) n n) (List.replicate n (.int .i64 0))) (hb : Below wi.heap.size wi w6) :
  RwS wi w6 B p (.slice (some ⟨wi.heap.size, 0, none⟩) n n) n := by
 have hz : Nl n (List.replicate n (0 : Int)) := ⟨by simp, fun y hy => by rw [List.eq_of_mem_replicate hy]; omega⟩
 refine ⟨⟨List.replicate n 0, ⟨?_, hz.in64⟩, hz⟩, gof hb, hs.below hb⟩
 rw [show ints (List.replicate n 0) = List.replicate n (.int .i64 0) by simp [ints]]
 exact ho
set_option maxHeartbeats 400000 in
theorem s_l01FracO (k : Int) (w : World) (h0 : 0 <= k) (h1 : k <= 10006) :
  Calls Tryz.prog 119 #[.int .i64 1, .int .i64 k] w fun e w' => e = .returned (.int .i64 (pw k 10005)) /\ w = w' := by
 have HP := Lib.hid (show (1 : Int) % 10007 * pw (k % 10007) 10005 % 10007 = pw k 10005 by have h2 := pw_bd k 10005; rw [show k % 10007 = k by omega]; omega)
 have hb := pw_bd (k % 10007) 10005
 go_enter Tryz.func119, Tryz.ntmps119
 go_wp2_with (first | (go_at_call 177; refine (s_l01Mod _ _ (by omega) (by omega)).mono ?_; rintro e w' ⟨rfl, rfl⟩) | (go_at_call 178; refine (s_l01Inv _ _ (by omega) (by omega)).mono ?_; rintro e w' ⟨rfl, rfl⟩) | (go_at_call 176; refine (s_l01Mul _ _ _ (by omega) (by omega) (by omega) (by omega)).mono ?_; rintro e w' ⟨rfl, rfl⟩))
 go_ret
 refine ⟨ret_int ?_, rfl⟩
 have := HP.out
 simpa using this
theorem DrS.wcell {w0 w : World} {B p q m n g cap : Nat} {va : Value} {vs : List Value} (h : DrS w0 w B p q va (.slice (some ⟨g, 0, none⟩) n cap) vs m n) (k : Nat) (hk : k < n) :
  ∃ z, w.cell? ⟨g, k, none⟩ = some (.int .i64 z) /\ (0 <= z /\ z <= 10006) := by
 obtain ⟨bs, hbs, hbn⟩ := h.ws
 obtain ⟨A, c, he, l1, l2, h3⟩ := hbs.open_
 obtain ⟨ad, z, hA, hz, hz2, hc⟩ := h3 k (by rw [hbn.1]; exact hk)
 rw [hA] at he
 injection he with e1 e2 e3
 injection e1 with e1
 subst e1
 rw [addr_addT] at hc
 exact ⟨z, hc, hbn.2 z (List.mem_of_getElem? hz)⟩
set_option maxHeartbeats 32000000 in
theorem s_l12Diagonal (w : World) (B p most : Nat) (h : Src w B tSc p) (hm1 : 1 <= most) (hm8 : most <= 8) :
  Calls Tryz.prog 149 #[at0 p, .int .i64 (most : Nat)] w fun e w' => ∃ v n, e = .returned v /\ DT w' w.heap.size v n /\ 1 <= n /\ n <= 8 /\ w.grownBy w' (some p) /\ Src w' B tSc p := by
 have hpl := h.lt
 have HBp := Lib.hid h.ge
 obtain ⟨W, hW⟩ : ∃ W, W = w.alloc (.cells #[.slice none 0 0, .slice none 0 0] tTb) := ⟨_, rfl⟩
 have HSW := Lib.hid (show W.heap.size = w.heap.size + 1 from by rw [hW]; simp)
 have HKR := Lib.hid (show Blk W w.heap.size tTb #[.slice none 0 0, .slice none 0 0] from by rw [hW]; exact Blk.new _ _ _)
 have HG0 := Lib.hid (show w.grownBy W (some p) from gof (by rw [hW]; exact below1 w _))
 have HS0 := Lib.hid (show Src W B tSc p from h.below (by rw [hW]; exact below1 w _))
 have HF := Lib.hid (fun X => s_l01FracO 2 X (by omega) (by omega))
 have hfb := pw_bd 2 10005
 generalize pw 2 10005 = y2 at *
 clear h
 go_enter Tryz.func149, Tryz.ntmps149
 go_upto_region 1 with fail
 rw [<- hW]
 clear hW
 go_upto_region 2 with (first
  | (go_at_call 111; (with_reducible refine (s_l01Next W B p (most : Nat) HS0.out (by omega) (by omega)).mono ?_); go_loud (rintro e w2 ⟨x, rfl, x0, x1, hg, hs⟩; obtain ⟨n0, rfl⟩ : ∃ n0 : Nat, x = n0 := ⟨x.toNat, by omega⟩; have hn8 : n0 + 1 <= 8 := (by omega); have hwn : wrap64 (1 + (n0 : Int)) = 1 + (n0 : Int) := (by rw [w64_dr _ (by omega)]); have HG2 := Lib.hid (gtrans HG0.out hg); have HS2 := Lib.hid hs; have HK2 := Lib.hid (HKR.out.srcD hg (by omega)); have HSZ2 := Lib.hid (show W.heap.size <= w2.heap.size from hg.size); clear hg hs x0 x1))
  | (go_at_call 125; go_loud (refine (s_l01List w2 B p (1 + n0) HS2.out (by omega)).mono ?_; rintro e w4 ⟨x4, rfl, zs, ho, lz, nz, hg, hs⟩; obtain ⟨gb, cb, rfl⟩ := own_openD ho ⟨lz, nz⟩ (by omega); have HO4 := Lib.hid ho; have HZ4 := Lib.hid (show Nl (1 + n0) zs from ⟨lz, nz⟩); have HG4 := Lib.hid (gtrans HG2.out hg); have HS4 := Lib.hid hs; have HK4 := Lib.hid (HK2.out.srcD hg (by omega)); have HSZ4 := Lib.hid (Nat.le_trans HSZ2.out hg.size); clear ho lz nz hg hs)))
 have HD0 := Lib.hid (DrS.init HK4.out HG4.out HS4.out HO4.out (by have h1 := HSZ2.out; have h2 := HSW.out; omega) HZ4.out)
 clear HO4 HZ4 HG4 HS4 HK4 HSZ4 HG2 HS2 HK2 HSZ2 hwn
 generalize w4.heap.size = q at *
 have hn1 : 1 <= 1 + n0 := by omega
 have hn8' : 1 + n0 <= 8 := by omega
 clear hn8
 generalize 1 + n0 = n at *
 generalize w4.alloc (.cells #[.slice none 0 0, .slice (some ⟨gb, 0, none⟩) n cb] tTb) = W5 at *
 go_wp2_with fail
 go_loopw [6] (fun x wr => ∃ (i : Nat), i <= n /\ x = .int .i64 i /\ ∃ va vs, Hid (DrS w wr B p q va (.slice (some ⟨gb, 0, none⟩) n cb) vs i n)) (fun x _ => n - (intOf x).toNat)
 case atStart => exact ⟨0, Nat.zero_le _, rfl, _, _, HD0⟩
 case round =>
  obtain ⟨i, hi, rfl, va, vs, HD⟩ := hrel
  rename World => wi
  clear HD0
  have q1 : wi.cell? ⟨q, 1, none⟩ = some (.slice (some ⟨gb, 0, none⟩) n cb) := HD.out.blk.cell 1
  by_cases hlt : i < n
  · have hii : (i : Int) < (n : Int) := by omega
    have hpi : p < wi.heap.size := by have h1 := HD.out.gr.size; omega
    have HPI := Lib.hid hpi
    clear hpi
    go_wp2_with (at_make; refine wpList_mk rfl _ _ _ rfl _ _ _ T_int n _ (by rfl) (by rfl) (by rfl) (by omega) _ ?_; intro w6 hown hb6 hs6; have HR6 := Lib.hid (RwS.new HD.out.src hown hb6); clear hown hb6)
    have hgr0 : ∃ g, g = wi.heap.size := ⟨_, rfl⟩
    go_loopw [8] (fun x wr => ∃ (k : Nat), k <= i /\ x = .int .i64 k /\ Hid (RwS wi wr B p (.slice (some ⟨wi.heap.size, 0, none⟩) n n) n)) (fun x _ => i - (intOf x).toNat)
    case atStart => exact ⟨0, Nat.zero_le _, rfl, HR6⟩
    case round =>
     obtain ⟨k, hk, rfl, HR⟩ := hrel
     rename World => wj
     clear HR6 q1
     have HD5 := Lib.hid (HD.out.draw hpl HR.out.2.1 HR.out.2.2)
     have q1 : wj.cell? ⟨q, 1, none⟩ = some (.slice (some ⟨gb, 0, none⟩) n cb) := HD5.out.blk.cell 1
     have hkn : k < n := by omega
     have hkn' : (k : Int) < (n : Int) := by omega
     obtain ⟨z, hc, z0, z1⟩ := HD5.out.wcell k hkn
     by_cases hlk : k < i
     · have hkk : (k : Int) < (i : Int) := by omega
       obtain ⟨⟨u0, hcg⟩, hfg, hst⟩ := HR.out.storeZ (z := z) HPI.out hkn ⟨z0, z1⟩
       have HST := Lib.hid hst
       clear hst
       go_wp2_with fail
       go_roundw
       case rel => exact ⟨k + 1, by omega, by go_num, HST⟩
       case measure => simp [intOf]; omega
     · have hkk : ¬ (k : Int) < (i : Int) := by omega
       have hki : k = i := by omega
       subst hki
       have HMU := Lib.hid (fun X => s_l01Mul z y2 X (by omega) (by omega) (by omega) (by omega))
       have hmb := nume_bd (z * y2)
       generalize z * y2 % 10007 = m at *
       obtain ⟨⟨u0, hcg⟩, hfg, hst⟩ := HR.out.storeZ (z := m) HPI.out hkn hmb
       have hst1 := hst.drew hst.2.1.size
       have HST := Lib.hid hst
       have HST1 := Lib.hid hst1
       clear hst hst1
       go_wp2_with fail
       go_region_law (go_simp; first
        | (go_at_call 119; (with_reducible refine (HF.out _).mono ?_); go_loud (rintro e w' ⟨rfl, rfl⟩))
        | (go_at_call 176; (with_reducible refine (HMU.out _).mono ?_); go_loud (rintro e w' ⟨rfl, rfl⟩)))
       all_goals
        generalize (wj.setCell ⟨wi.heap.size, k, none⟩ (.int .i64 m)).drew = w8 at *
        have HR8 := HST1
        clear HST
        have HD8 := Lib.hid (HD.out.draw hpl HR8.out.2.1 HR8.out.2.2)
        have hva := HD8.out.ownA.cells.open_
        have HVL := Lib.hid HD8.out.lenA
        obtain ⟨Ava, cva, heva, -, -⟩ := hva
        rw [HVL.out] at heva
        subst heva
        have q0 : w8.cell? ⟨q, 0, none⟩ = some (.slice Ava k cva) := HD8.out.blk.cell 0
        have HZR := Lib.hid HR8.out.1
        go_wp2_with (at_builtin; go_loud (refine wpList_app1 T_row HD8.out.ownA (by rw [HVL.out]; omega) (by have h1 := HD8.out.gr.size; have h2 := HD8.out.ge; have h3 := HD8.out.blk.lt; omega) (by rfl) rfl (by rfl) (by rfl) (by rfl) ?_; intro v7 w7 hown7 hgr7; have hop7 := hown7.cells.open_; (obtain ⟨A7, c7, he7, -, -⟩ := hop7); (rw [List.length_append, HVL.out] at he7); subst he7; have HN7 := Lib.hid hown7; have HR7 := Lib.hid hgr7; have hk7 := HD8.out.blk.grow hgr7 (HD8.out.ownA.ne_blk HD8.out.blk (by decide)); have q1 : w7.cell? ⟨q, 0, none⟩ = some (.slice Ava k cva) := hk7.cell 0; have q2 : w7.frozen? ⟨q, 0, none⟩ = false := hk7.frozen 0; clear hown7 hgr7 hk7))
        go_roundw
        case rel =>
         obtain ⟨zz, ho, hz⟩ := HZR.out
         exact ⟨k + 1, by omega, by go_num, _, _, HD.out.next hpl HR8.out.2.1 HR8.out.2.2 ho hz HN7.out HR7.out⟩
        case measure => simp [intOf]; omega
  · have hii : ¬ (i : Int) < (n : Int) := by omega
    have hin : i = n := by omega
    subst hin
    have HD9 := HD
    clear HD
    have HDz := HD9.out
    have q0 : wi.cell? ⟨q, 0, none⟩ = some va := HDz.blk.cell 0
    have p0 : wi.cell? ⟨w.heap.size, 0, none⟩ = some (.slice none 0 0) := HDz.res.cell 0
    have p1 : wi.cell? ⟨w.heap.size, 1, none⟩ = some (.slice none 0 0) := HDz.res.cell 1
    have f0 : wi.frozen? ⟨w.heap.size, 0, none⟩ = false := HDz.res.frozen 0
    have f1 : wi.frozen? ⟨w.heap.size, 1, none⟩ = false := HDz.res.frozen 1
    obtain ⟨Av, cv, hve, -, -⟩ := HDz.ownA.cells.open_
    rw [HDz.lenA] at hve
    subst hve
    have HBLK := Lib.hid (show Blk ((wi.setCell ⟨w.heap.size, 0, none⟩ (.slice Av i cv)).setCell ⟨w.heap.size, 1, none⟩ (.slice (some ⟨gb, 0, none⟩) i cb)) w.heap.size tTb #[.slice Av i cv, .slice (some ⟨gb, 0, none⟩) i cb] from by have h := (HDz.res.set_ 0 (.slice Av i cv)).set_ 1 (.slice (some ⟨gb, 0, none⟩) i cb); simpa using h)
    clear HDz
    obtain ⟨hfin, hgf, hsf⟩ := HD9.out.fin hpl
    have HFN := Lib.hid hfin
    have HGF := Lib.hid hgf
    have HSF := Lib.hid hsf
    clear hfin hgf hsf
    go_wp2_with fail
    have g0 : ((wi.setCell ⟨w.heap.size, 0, none⟩ (.slice Av i cv)).setCell ⟨w.heap.size, 1, none⟩ (.slice (some ⟨gb, 0, none⟩) i cb)).cell? ⟨w.heap.size, 0, none⟩ = some (.slice Av i cv) := HBLK.out.cell 0
    have g1 : ((wi.setCell ⟨w.heap.size, 0, none⟩ (.slice Av i cv)).setCell ⟨w.heap.size, 1, none⟩ (.slice (some ⟨gb, 0, none⟩) i cb)).cell? ⟨w.heap.size, 1, none⟩ = some (.slice (some ⟨gb, 0, none⟩) i cb) := HBLK.out.cell 1
    refine bodyPost_ret (v := .agg #[.slice Av i cv, .slice (some ⟨gb, 0, none⟩) i cb]) (by simp [results, Tryz.results149, go_sem, g0, g1]) rfl ⟨_, rfl, _, HFN.out, by omega, by omega, HGF.out, HSF.out⟩
theorem sl1 (W : World) (g cap : Nat) (h : 38 <= cap) :
  (Instr.slice 27 (.slice (some ⟨g, 0, none⟩) 38 cap) (some (.int .i64 1)) none none).run Tryz.prog W = .ok (.slice (some ⟨g, 1, none⟩) 37 (cap - 1)) W := by
 rw [sl_from Tryz.underlying27 sizeI W (some ⟨g, 0, none⟩) 38 cap 1 1 rfl (by omega)]
 have : sliced (some ⟨g, 0, none⟩) 1 38 cap 1 = .slice (some ⟨g, 1, none⟩) 37 (cap - 1) := by
  unfold sliced
  split
  · next h1 => omega
  · rfl
 rw [this]
theorem in64_n {z : Int} (h : 0 <= z /\ z <= 10006) : In64 z := by unfold In64; omega
theorem addr_addD (g n : Nat) : (⟨g, 0, none⟩ : Addr).add n = ⟨g, n, none⟩ := by by_cases h0 : n = 0 <;> simp [Addr.add, h0]
theorem ints_setD (zs : List Int) (k : Nat) (z : Int) : (ints zs).set k (.int .i64 z) = ints (zs.set k z) := by simp [ints, List.map_set]
theorem OwnInts.setAt {w : World} {C g cap k : Nat} {us : List Int} {n : Nat} (h : OwnInts w C tI (.slice (some ⟨g, 0, none⟩) n cap) us) (hk : k < us.length) {z : Int} (hz : In64 z) :
  (∃ u0, w.cell? ⟨g, k, none⟩ = some u0) /\ w.frozen? ⟨g, k, none⟩ = false /\ OwnInts (w.setCell ⟨g, k, none⟩ (.int .i64 z)) C tI (.slice (some ⟨g, 0, none⟩) n cap) (us.set k z) /\ w.grownBy (w.setCell ⟨g, k, none⟩ (.int .i64 z)) (some g) := by
 obtain ⟨u0, hu0, hcg, hfg, hg2, hg1, hown', hgr⟩ := h.1.storeAt (k := k) (by rw [ints_len]; exact hk) (.int .i64 z)
 refine ⟨⟨u0, hcg⟩, hfg, ⟨by rw [ints_setD] at hown'; exact hown', fun y hy => ?_⟩, hgr⟩
 rcases List.mem_or_eq_of_mem_set hy with h1 | rfl
 · exact h.2 y h1
 · exact hz
structure DrM (w : World) (C : Nat) (g d n m : Nat) : Prop where
 ex : ∃ cap us, OwnInts w C tI (.slice (some ⟨g, 0, none⟩) 38 cap) us /\ us.length = 38 /\ m + d = cap
 nd : n + d = 38
 dl : d <= 1
theorem DrM.src {w w' : World} {C p g d n m : Nat} (h : DrM w C g d n m) (hp : p < C) (hg : w.grownBy w' (some p)) : DrM w' C g d n m := by
 obtain ⟨⟨cap, us, h1, h2, h3⟩, h4, h5⟩ := h
 exact ⟨⟨cap, us, ⟨h1.1.src hp hg, h1.2⟩, h2, h3⟩, h4, h5⟩
theorem DrM.set_ {w : World} {C g d n m k : Nat} (h : DrM w C g d n m) (hk : k < n) {z : Int} (hz : In64 z) :
  (∃ u0, w.cell? ⟨g, d + k, none⟩ = some u0) /\ w.frozen? ⟨g, d + k, none⟩ = false /\ DrM (w.setCell ⟨g, d + k, none⟩ (.int .i64 z)) C g d n m /\ w.grownBy (w.setCell ⟨g, d + k, none⟩ (.int .i64 z)) (some g) := by
 obtain ⟨⟨cap, us, h1, h2, h3⟩, h4, h5⟩ := h
 obtain ⟨hu, hf, ho, hg⟩ := h1.setAt (k := d + k) (by omega) hz
 exact ⟨hu, hf, ⟨⟨cap, _, ho, by rw [List.length_set]; exact h2, h3⟩, h4, h5⟩, hg⟩
theorem DrM.readable {w : World} {C g d n m : Nat} (h : DrM w C g d n m) : ∃ zs, Ints w (.slice (some ⟨g, d, none⟩) n m) zs := by
 obtain ⟨⟨cap, us, h1, h2, h3⟩, h4, h5⟩ := h
 obtain ⟨⟨A', c', he, hl, hm, hcell⟩, hin⟩ := h1.ints
 rw [ints_len] at he hl
 simp only [Value.slice.injEq] at he
 obtain ⟨rfl, -, rfl⟩ := he
 refine ⟨us.drop d, ⟨some ⟨g, d, none⟩, m, ?_, ?_, ?_, fun k u hk => ⟨_, rfl, ?_⟩⟩, fun z hz => hin z (List.mem_of_mem_drop hz)⟩
 · rw [ints_len, List.length_drop, h2, show 38 - d = n by omega]
 · rw [ints_len, List.length_drop]; omega
 · omega
 · have e : (ints us)[d + k]? = some u := by
    rw [<- hk, ints, ints, List.map_drop, List.getElem?_drop]
   obtain ⟨ad, e1, e2⟩ := hcell (d + k) u e
   injection e1 with e1
   subst e1
   have e3 : (⟨g, d, none⟩ : Addr).add k = (⟨g, 0, none⟩ : Addr).add (d + k) := by
    rw [addr_addD]
    unfold Addr.add
    split <;> simp_all
   rw [e3]
   exact e2
end Go.Proofs.YtofabikjjkapmaaGreat
