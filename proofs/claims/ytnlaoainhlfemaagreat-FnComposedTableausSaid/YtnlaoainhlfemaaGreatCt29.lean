/- A list that grows by append while older blocks, and newer ones that were laid behind its first block, are read. No walk. | Walks: the character of a tableau, InverseMap and ComposeTableaus of the reference. | Walk: valueOf of the program. | Walk: valueOf of the program at lists of any length. | Walk: substituted of the program. | Walk: convolve of the program. | Walk: inverseMap of the program. -/
import Derived.Test.YtnlaoainhlfemaaGreatCt2
import Derived.Test.YtnlaoainhlfemaaGreatCt22
import Derived.Test.YtnlaoainhlfemaaGreatCt25
import Derived.Test.YtnlaoainhlfemaaGreatCt14
import Derived.Test.YtnlaoainhlfemaaGreatCt13
import Derived.Test.YtnlaoainhlfemaaGreatCt6
import Derived.Test.YtnlaoainhlfemaaGreatCt15
import Derived.Test.YtnlaoainhlfemaaGreatCt9
set_option linter.unusedVariables false
set_option linter.unusedSimpArgs false
namespace Go.Proofs.YtnlaoainhlfemaaGreat
open Go.RowKit

/-- wr came from w3 by appends to a list that first lay in block g -/
structure Apd (w3 wr : World) (g : Nat) (o : Value) : Prop where
  gr : w3.grownBy wr (some g)
  ob : ∀ b, o.ownBlock = some b → b = g ∨ w3.heap.size ≤ b
section
variable {w3 wr w5 w6 : World} {g : Nat} {o v1 : Value}
theorem Apd.refl (h : o.ownBlock = some g) : Apd w3 w3 g o := ⟨World.grownBy.refl _ _, fun b hb => .inl (by rw [h] at hb; injection hb with hb; exact hb.symm)⟩
theorem Apd.step (h : Apd w3 wr g o) (hb : Below wr.heap.size wr w5) : Apd w3 w5 g o :=
  ⟨⟨hb.os.trans h.gr.os, hb.tape.trans h.gr.tape, hb.output.trans h.gr.output, Nat.le_trans h.gr.size hb.size, fun k hk hne => (hb.block k (Nat.lt_of_lt_of_le hk h.gr.size)).trans (h.gr.block k hk hne)⟩, h.ob⟩
theorem Apd.app (h : Apd w3 wr g o) (hg : Grow wr w6 o v1) : Apd w3 w6 g v1 := by
  refine ⟨⟨hg.1.os.trans h.gr.os, hg.1.tape.trans h.gr.tape, hg.1.output.trans h.gr.output, Nat.le_trans h.gr.size hg.1.size, fun k hk hne => (hg.1.block k (Nat.lt_of_lt_of_le hk h.gr.size) (fun e => ?_)).trans (h.gr.block k hk hne)⟩, fun b hb => ?_⟩
  · rcases h.ob k e.symm with e2 | e2
    · exact hne (by rw [e2])
    · omega
  · rcases hg.2 with e | ⟨b', e, hle⟩
    · rw [e] at hb; exact h.ob b hb
    · rw [e] at hb
      injection hb with hb
      subst hb
      exact .inr (Nat.le_trans h.gr.size hle)
theorem Apd.cell (h : Apd w3 wr g o) {ad : Addr} {v : Value} (hc : w3.cell? ad = some v) (hne : ad.block ≠ g) : wr.cell? ad = some v := by
  exact h.gr.cell hc (fun e => hne (by injection e))
theorem Apd.ownBlk (h : Apd w3 wr g o) {B : Nat} {e : TypeId} {u : Value} {vs : List Value} (hO : Own w3 B e u vs) (hlt : g < B) : Own wr B e u vs := hO.kept h.gr (by
  cases hb : u.ownBlock with
  | none => exact .inl rfl
  | some b => exact .inr fun e => by injection e with e; have := hO.ge b hb; omega)
theorem Apd.ints (h : Apd w3 wr g o) {B : Nat} {e : TypeId} {u : Value} {zs : List Int} (hO : OwnInts w3 B e u zs) (hlt : g < B) : OwnInts wr B e u zs := ⟨h.ownBlk hO.1 hlt, hO.2⟩
end
end Go.Proofs.YtnlaoainhlfemaaGreat

set_option maxRecDepth 100000
set_option linter.unusedVariables false
set_option linter.unusedSimpArgs false
namespace Go.Proofs.YtnlaoainhlfemaaGreat
open Go.RowKit

theorem chT_nums (A : List (List Int)) (B : List Int) : Nums (chT A B) := chF_nums _ _ _
theorem chT_take1 (A : List (List Int)) (B : List Int) : (chT A B).take 1 = [1] := by
  have h := chT_len A B
  have h0 : (chT A B).getD 0 0 = 1 := (chr_chF B.length (fT A) (fB B)).one
  cases hc : chT A B with
  | nil => rw [hc] at h; simp at h
  | cons x l => rw [hc] at h0; simp at h0; simp [h0]
theorem chT_takeS (A : List (List Int)) (B : List Int) {i : Nat} (hi : i < 37) : (chT A B).take (i + 1 + 1) = (chT A B).take (i + 1) ++ [(chT A B).getD (i + 1) 0] := by
  have h := chT_len A B
  rw [List.take_add_one, List.getD_eq_getElem?_getD, List.getElem?_eq_getElem (by omega)]
  rfl
set_option maxHeartbeats 8000000 in
theorem im_character {A : List (List Int)} {Bs : List Int} (hT : SqT A Bs Bs.length) (h1 : 1 ≤ Bs.length) (h8 : Bs.length ≤ 8) (w : World) (va : Value) (ha : TabArg w va A Bs) :
    Calls Tryz.prog 89 #[va] w fun e w' => ∃ x, e = .returned x ∧ OwnInts w' w.heap.size tI x (chT A Bs) ∧ Below w.heap.size w w' := by
  obtain ⟨va1, vb1, rfl, ha1, ha2⟩ := ha
  obtain ⟨A1, c1, rfl, -, -, -⟩ := ha1.open_
  obtain ⟨A2, c2, rfl, -, -, -⟩ := ha2.open_
  obtain ⟨W, hW⟩ : ∃ W, W = w.alloc (.cells #[.slice A1 A.length c1, .slice A2 Bs.length c2] 37) := ⟨_, rfl⟩
  have hbw : Below w.heap.size w W := by rw [hW]; exact below1 w _
  have HBW := Lib.hid hbw
  have HKF := Lib.hid (show Blk W w.heap.size 37 #[.slice A1 A.length c1, .slice A2 Bs.length c2] from by rw [hW]; exact Blk.new _ _ _)
  have HTA := Lib.hid (show TabArg W (.agg #[.slice A1 A.length c1, .slice A2 Bs.length c2]) A Bs from ⟨_, _, rfl, ha1.below hbw, ha2.below hbw⟩)
  have HLK := Lib.hid (fun n (hn : n < 37) => im_weight hT h1 h8 n hn)
  have OL := Lib.hid (show Own (W.alloc (.cells #[.int .i64 1] tI)) W.heap.size tI (.slice (some ⟨W.heap.size, 0, none⟩) 1 1) (ints ((chT A Bs).take 1)) from by rw [chT_take1]; exact own_lit W tI [.int .i64 1] (by simp [maxLen]))
  have HBO := Lib.hid (below1 W (.cells #[.int .i64 1] tI))
  clear ha1 ha2 hbw
  go_enter Tryz.func89, Tryz.ntmps89
  go_upto_region 1 with fail
  rw [← hW]
  clear hW
  go_wp2_with (go_at_call 109; go_loud (refine (i_treesTo _ 6 (by omega)).mono ?_; rintro e w3 ⟨x3, rfl, hl3, hb3⟩; rw [show allG treesN 6 = T6n from rfl] at hl3; obtain ⟨A3, c3, he3, -, -, -⟩ := hl3.rows.open_; rw [List.length_map, T6n_len] at he3; subst he3; have HX3 := Lib.hid hl3; have HB3 := Lib.hid (HBO.out.trans (hb3.mono HBO.out.size)); have HO3 := Lib.hid (OL.out.below hb3); have HGS := Lib.hid (show W.heap.size < (W.alloc (.cells #[.int .i64 1] tI)).heap.size from by simp); clear hl3 hb3))
  go_loopw [3, 9] (fun o x wr => ∃ i : Nat, i ≤ 37 ∧ x = .int .i64 i ∧ Own wr W.heap.size tI o (ints ((chT A Bs).take (i + 1))) ∧ Apd w3 wr W.heap.size o ∧ Below W.heap.size W wr) (fun _ x _ => 37 - (intOf x).toNat)
  case atStart => exact ⟨0, Nat.zero_le _, rfl, HO3.out, Apd.refl rfl, HB3.out⟩
  case round =>
    obtain ⟨i, hi, rfl, ho, hb, hb2⟩ := hrel
    rename World => wq
    have HB := Lib.hid hb
    have HBQ := Lib.hid hb2
    have hel : ((chT A Bs).take (i + 1)).length = i + 1 := by rw [List.length_take, chT_len]; omega
    have hol := ho.cells.open_
    rw [ints_len, hel] at hol
    obtain ⟨Ao, co, rfl, -, -⟩ := hol
    have HEL := Lib.hid hel
    have HO := Lib.hid ho
    clear hb hb2 ho hel OL HO3
    by_cases hlt : i < 37
    · obtain ⟨ad, At, ct, t, rfl, ht, hti, hcr⟩ := (show Rows wq (.slice A3 37 c3) (T6n.map up) from (HX3.out.keptLt HB.out.gr HGS.out).rows).treeB hlt
      have htr := tr_at ht
      subst htr
      have HKQ := Lib.hid (HKF.out.below HBQ.out HKF.out.lt)
      have q0 : wq.cell? ⟨w.heap.size, 0, none⟩ = some (.slice A1 A.length c1) := HKQ.out.cell 0
      have q1 : wq.cell? ⟨w.heap.size, 1, none⟩ = some (.slice A2 Bs.length c2) := HKQ.out.cell 1
      have HLC := Lib.hid (HLK.out i hlt wq _ _ (HTA.out.below HBQ.out) hti)
      have HTS := Lib.hid (show ints ((chT A Bs).take (i + 1 + 1)) = ints ((chT A Bs).take (i + 1)) ++ [.int .i64 ((chT A Bs).getD (i + 1) 0)] from by rw [chT_takeS A Bs hlt, ints, ints, List.map_append]; rfl)
      have hii : (i : Int) < 37 := by omega
      generalize (chT A Bs).getD (i + 1) 0 = cc at HLC HTS
      clear hti ht
      go_wp2_with (first
        | (go_at_call 162; go_loud (refine HLC.out.mono ?_; rintro e w5 ⟨rfl, hb5⟩; have HB5 := Lib.hid hb5; have HO5 := Lib.hid (HO.out.below hb5); clear hb5))
        | (at_builtin; go_loud (refine wpList_app1 T_int HO5.out (by rw [ints_len, HEL.out]; omega) (Nat.le_trans HBQ.out.size HB5.out.size) (by rfl) rfl (by rfl) (by rfl) (by rfl) ?_; intro v1 w6 hown1 hgr1; have HNN := Lib.hid hown1; have HGR := Lib.hid hgr1; clear hown1 hgr1)))
      go_roundw
      case rel => exact ⟨i + 1, by omega, by go_num, by rw [HTS.out]; exact HNN.out, (HB.out.step HB5.out).app HGR.out, HGR.out.below (HBQ.out.trans (HB5.out.mono HBQ.out.size)) (Nat.le_trans HBQ.out.size HB5.out.size) HO.out.ge⟩
      case measure => simp [intOf]; omega
    · have hil : i = 37 := by omega
      subst hil
      have htl : (chT A Bs).take (37 + 1) = chT A Bs := List.take_of_length_le (by rw [chT_len]; omega)
      rw [htl] at HO
      go_wp2_with fail
      go_ret
      exact ⟨_, rfl, ⟨HO.out.mono HBW.out.size, fun z hz => in64_num (chT_nums A Bs z hz)⟩, HBW.out.trans (HBQ.out.mono HBW.out.size)⟩
set_option maxHeartbeats 2000000 in
theorem i_CharacterOf0 (w : World) (v : Value) (A : List (List Int)) (Bs : List Int) (ha : TabArg w v A Bs) (hb : tabB A Bs = true) :
    Calls Tryz.prog 34 #[v] w fun e w' => ∃ x, e = .returned (.tuple #[x, .int .i64 0]) ∧ OwnInts w' w.heap.size tI x (chT A Bs) ∧ Below w.heap.size w w' := by
  obtain ⟨va1, vb1, rfl, ha1, ha2⟩ := ha
  obtain ⟨A1, c1, rfl, -, -, -⟩ := ha1.open_
  obtain ⟨A2, c2, rfl, -, -, -⟩ := ha2.open_
  obtain ⟨W, hW⟩ : ∃ W, W = w.alloc (.cells #[.slice A1 A.length c1, .slice A2 Bs.length c2] 37) := ⟨_, rfl⟩
  have hbw : Below w.heap.size w W := by rw [hW]; exact below1 w _
  have HBW := Lib.hid hbw
  have HKF := Lib.hid (show Blk W w.heap.size 37 #[.slice A1 A.length c1, .slice A2 Bs.length c2] from by rw [hW]; exact Blk.new _ _ _)
  have HTA := Lib.hid (show TabArg W (.agg #[.slice A1 A.length c1, .slice A2 Bs.length c2]) A Bs from ⟨_, _, rfl, ha1.below hbw, ha2.below hbw⟩)
  have HIT := Lib.hid (i_IsTableau W _ A Bs HTA.out)
  rw [hb] at HIT
  have hI := isTab_of hb
  have HO := Lib.hid (fun X (hX : TabArg X (.agg #[.slice A1 A.length c1, .slice A2 Bs.length c2]) A Bs) => im_character (SqT.of hI) hI.lo hI.hi X _ hX)
  clear ha1 ha2 hbw hb hI
  have q0 : W.cell? ⟨w.heap.size, 0, none⟩ = some (.slice A1 A.length c1) := HKF.out.cell 0
  have q1 : W.cell? ⟨w.heap.size, 1, none⟩ = some (.slice A2 Bs.length c2) := HKF.out.cell 1
  go_enter Tryz.func34, Tryz.ntmps34
  go_upto_region 1 with fail
  rw [← hW]
  clear hW
  go_wp2_with (first
    | (go_at_call 81; go_loud (refine HIT.out.mono ?_; rintro e w2 ⟨rfl, hb2⟩; have HB2 := Lib.hid hb2; have m1 : w2.cell? ⟨w.heap.size, 0, none⟩ = some (.slice A1 A.length c1) := (HKF.out.below hb2 HKF.out.lt).cell 0; have m2 : w2.cell? ⟨w.heap.size, 1, none⟩ = some (.slice A2 Bs.length c2) := (HKF.out.below hb2 HKF.out.lt).cell 1; clear hb2))
    | (go_at_call 89; go_loud (refine (HO.out _ (HTA.out.below HB2.out)).mono ?_; rintro e w3 ⟨x3, rfl, ho3, hb3⟩; have HO3 := Lib.hid (ho3.mono (Nat.le_trans HBW.out.size HB2.out.size)); have HB3 := Lib.hid (HB2.out.trans (hb3.mono HB2.out.size)); clear ho3 hb3)))
  go_ret2
  exact ⟨_, rfl, HO3.out, HBW.out.trans (HB3.out.mono HBW.out.size)⟩
end Go.Proofs.YtnlaoainhlfemaaGreat

set_option maxRecDepth 100000
set_option linter.unusedVariables false
set_option linter.unusedSimpArgs false
namespace Go.Proofs.YtnlaoainhlfemaaGreat
open Go.RowKit

set_option maxHeartbeats 2000000 in
theorem i_valueOf (w : World) (va vp : Value) (a : List Int) (ps : List Nat) (h1 : Ints w va a) (l1 : a.length = 38) (hN : Nums a) (h2 : Ints w vp (up ps)) (hp : ∀ p ∈ ps, p < 38) :
    Calls Tryz.prog 119 #[va, vp] w fun e w' => e = .returned (.int .i64 (valZ a ps)) ∧ w = w' := by
  obtain ⟨A, c, rfl, -, -, -⟩ := h1.open_
  rw [l1] at h1 ⊢
  have HA := Lib.hid h1
  have HN := Lib.hid hN
  have HP := Lib.hid hp
  obtain ⟨A2, c2, rfl, hc2, hc3, g2⟩ := h2.open_
  rw [up_len] at g2 hc2 ⊢
  have G2 := Lib.hid g2
  clear h1 h2 l1 hN hp g2
  go_enter Tryz.func119, Tryz.ntmps119
  go_wp2_with fail
  go_loop [5, 10] (fun x y => ∃ k : Nat, k ≤ ps.length ∧ x = .int .i64 (valZ a (ps.take k)) ∧ y = .int .i64 k) (fun _ y => ps.length - (intOf y).toNat)
  case atStart => exact ⟨0, Nat.zero_le _, rfl, rfl⟩
  case round =>
    obtain ⟨k, hk, rfl, rfl⟩ := hrel
    have hv := valZ_bd a (ps.take k)
    by_cases hlt : k < ps.length
    · obtain ⟨p, hpk⟩ : ∃ p, ps[k]? = some p := ⟨_, List.getElem?_eq_getElem hlt⟩
      have hp38 := HP.out p (List.mem_of_getElem? hpk)
      obtain ⟨a2, z, rfl, hz, -, hcz⟩ := G2.out k hlt
      have hze : z = (p : Int) := by
        unfold up at hz
        rw [List.getElem?_map, hpk] at hz
        injection hz with hz
        exact hz.symm
      subst hze
      obtain ⟨ad, rfl, hcx, hx0, hx1⟩ := map_cell HA.out HN.out hp38
      have HV := Lib.hid (show valZ a (ps.take (k + 1)) = valZ a (ps.take k) * a.getD p 0 % 10007 from by rw [List.take_add_one, hpk]; exact valZ_snoc a _ p)
      generalize a.getD p 0 = y at *
      generalize valZ a (ps.take k) = s at *
      obtain ⟨p1, p2⟩ := mul_bd 10006 10006 hv.1 hv.2 hx0 hx1
      have hkk : (k : Int) < (ps.length : Int) := by omega
      have hpp : (p : Int) < 38 := by omega
      clear hz hpk
      go_wp2_with (go_at_call 64; refine (i_num _ _ (by omega) (by omega)).mono ?_; rintro e w' ⟨rfl, rfl⟩)
      go_roundw
      case rel => exact ⟨k + 1, by omega, by rw [HV.out], by go_num⟩
      case measure => simp [intOf]; omega
    · have hkl : ps.take k = ps := List.take_of_length_le (by omega)
      rw [hkl]
      clear hkl
      go_wp2_with fail
      go_ret
      exact ⟨rfl, rfl⟩
end Go.Proofs.YtnlaoainhlfemaaGreat

set_option maxRecDepth 100000
set_option linter.unusedVariables false
set_option linter.unusedSimpArgs false
namespace Go.Proofs.YtnlaoainhlfemaaGreat
open Go.RowKit

theorem map_cellG {w : World} {A : Option Addr} {n c : Nat} {a : List Int} (h : Ints w (.slice A n c) a) (hm : ∀ z ∈ a, 0 ≤ z ∧ z ≤ 10006) {k : Nat} (hk : k < a.length) :
    ∃ ad, A = some ad ∧ w.cell? (ad.add k) = some (.int .i64 (a.getD k 0)) ∧ 0 ≤ a.getD k 0 ∧ a.getD k 0 ≤ 10006 := by
  obtain ⟨A', c', he, -, -, h3⟩ := h.open_
  simp only [Value.slice.injEq] at he
  obtain ⟨rfl, hl, rfl⟩ := he
  obtain ⟨ad, z, rfl, hz, -, hc⟩ := h3 k (by omega)
  rw [ints_getD hz]
  exact ⟨ad, rfl, hc, hm z (List.mem_of_getElem? hz)⟩
set_option maxHeartbeats 2000000 in
theorem i_valueOfG (w : World) (va vp : Value) (a : List Int) (ps : List Nat) (h1 : Ints w va a) (l1 : a.length ≤ 38) (hN : Nums a) (h2 : Ints w vp (up ps)) (hp : ∀ p ∈ ps, p < a.length) :
    Calls Tryz.prog 119 #[va, vp] w fun e w' => e = .returned (.int .i64 (valZ a ps)) ∧ w = w' := by
  obtain ⟨A, c, rfl, -, -, -⟩ := h1.open_
  have HA := Lib.hid h1
  have HN := Lib.hid hN
  have HP := Lib.hid hp
  have HL := Lib.hid l1
  obtain ⟨A2, c2, rfl, hc2, hc3, g2⟩ := h2.open_
  rw [up_len] at g2 hc2 ⊢
  have G2 := Lib.hid g2
  clear h1 h2 l1 hN hp g2
  go_enter Tryz.func119, Tryz.ntmps119
  go_wp2_with fail
  go_loop [5, 10] (fun x y => ∃ k : Nat, k ≤ ps.length ∧ x = .int .i64 (valZ a (ps.take k)) ∧ y = .int .i64 k) (fun _ y => ps.length - (intOf y).toNat)
  case atStart => exact ⟨0, Nat.zero_le _, rfl, rfl⟩
  case round =>
    obtain ⟨k, hk, rfl, rfl⟩ := hrel
    have hv := valZ_bd a (ps.take k)
    by_cases hlt : k < ps.length
    · obtain ⟨p, hpk⟩ : ∃ p, ps[k]? = some p := ⟨_, List.getElem?_eq_getElem hlt⟩
      have hp38 := HP.out p (List.mem_of_getElem? hpk)
      obtain ⟨a2, z, rfl, hz, -, hcz⟩ := G2.out k hlt
      have hze : z = (p : Int) := by
        unfold up at hz
        rw [List.getElem?_map, hpk] at hz
        injection hz with hz
        exact hz.symm
      subst hze
      obtain ⟨ad, rfl, hcx, hx0, hx1⟩ := map_cellG HA.out HN.out hp38
      have hpL : (p : Int) < (a.length : Int) := by omega
      have HV := Lib.hid (show valZ a (ps.take (k + 1)) = valZ a (ps.take k) * a.getD p 0 % 10007 from by rw [List.take_add_one, hpk]; exact valZ_snoc a _ p)
      generalize a.getD p 0 = y at *
      generalize valZ a (ps.take k) = s at *
      obtain ⟨p1, p2⟩ := mul_bd 10006 10006 hv.1 hv.2 hx0 hx1
      have hkk : (k : Int) < (ps.length : Int) := by omega
      have hpp : (p : Int) < 38 := by have := HL.out; omega
      clear hz hpk
      go_wp2_with (go_at_call 64; refine (i_num _ _ (by omega) (by omega)).mono ?_; rintro e w' ⟨rfl, rfl⟩)
      go_roundw
      case rel => exact ⟨k + 1, by omega, by rw [HV.out], by go_num⟩
      case measure => simp [intOf]; omega
    · have hkl : ps.take k = ps := List.take_of_length_le (by omega)
      rw [hkl]
      clear hkl
      go_wp2_with fail
      go_ret
      exact ⟨rfl, rfl⟩
end Go.Proofs.YtnlaoainhlfemaaGreat

set_option maxRecDepth 100000
set_option linter.unusedVariables false
set_option linter.unusedSimpArgs false
namespace Go.Proofs.YtnlaoainhlfemaaGreat
open Go.RowKit

theorem Mcs.at_ {w : World} {B : Nat} {css : List (List Value)} {xs : List MC} {i : Nat} {x : MC} (h : Mcs w B css xs) (hx : xs[i]? = some x) : ∃ c, css[i]? = some c ∧ McD w B c x := by
  have hi := (List.getElem?_eq_some_iff.1 hx).1
  have hc : css[i]? = some (css[i]'(by rw [h.1]; exact hi)) := List.getElem?_eq_getElem _
  exact ⟨_, hc, h.2 i _ x hc hx⟩
/-- the parts of a partition or a cut in memory -/
theorem part_at {w : World} {B : Nat} {e : TypeId} {A2 : Option Addr} {c2 : Nat} {css : List (List Value)} {xs : List MC} {j : Nat} {x : MC} (h : OwnK w B e 3 (.slice A2 css.length c2) css) (hm : Mcs w B css xs) (hx : xs[j]? = some x) :
    ∃ go As cs, A2 = some ⟨go, 0, none⟩ ∧ OwnInts w B tN (.slice As x.1.1.length cs) (up x.1.1) ∧ w.cell? ⟨go, j * 3, none⟩ = some (.int .i64 (x.2 : Nat)) ∧ w.cell? ⟨go, j * 3 + 1, none⟩ = some (.slice As x.1.1.length cs) ∧ w.cell? ⟨go, j * 3 + 2, none⟩ = some (.int .i64 (x.1.2 : Nat)) := by
  obtain ⟨c, hc, s, rfl, hs⟩ := hm.at_ hx
  obtain ⟨As, cs, rfl, -, -, -⟩ := hs.ints.open_
  rw [up_len] at hs hc
  obtain ⟨go, cg, heo, hg0⟩ := h.cell (j := 0) hc rfl
  simp only [Value.slice.injEq] at heo
  obtain ⟨rfl, -, rfl⟩ := heo
  refine ⟨go, As, cs, rfl, hs, hg0, ?_, ?_⟩
  · obtain ⟨g', c', he', h'⟩ := h.cell (j := 1) hc rfl; simp only [Value.slice.injEq, Option.some.injEq, Addr.mk.injEq, and_true, true_and] at he'; rw [he'.1]; exact h'
  · obtain ⟨g', c', he', h'⟩ := h.cell (j := 2) hc rfl; simp only [Value.slice.injEq, Option.some.injEq, Addr.mk.injEq, and_true, true_and] at he'; rw [he'.1]; exact h'
end Go.Proofs.YtnlaoainhlfemaaGreat

set_option maxRecDepth 100000
set_option linter.unusedVariables false
set_option linter.unusedSimpArgs false
namespace Go.Proofs.YtnlaoainhlfemaaGreat
open Go.RowKit

set_option maxHeartbeats 16000000 in
theorem i_convolve (w : World) (vp va vb : Value) (Af : Option Addr) (cf Bp : Nat) (a b : List Int) (hP : FrC w Bp vp) (h1 : Ints w va a) (l1 : a.length = 38) (hN1 : Nums a) (h2 : Ints w vb b) (l2 : b.length = 38) (hN2 : Nums b) :
    Calls Tryz.prog 97 #[.agg #[.slice Af 37 cf, vp], va, vb] w fun e w' => ∃ x, e = .returned x ∧ OwnInts w' w.heap.size tI x (cvZ a b) ∧ Below w.heap.size w w' := by
  obtain ⟨AP, cP, rfl, -⟩ := hP.at_
  obtain ⟨Ab, cb, rfl, -, -, -⟩ := h1.open_
  obtain ⟨Aa, ca, rfl, -, -, -⟩ := h2.open_
  rw [l1] at h1 ⊢
  rw [l2] at h2 ⊢
  obtain ⟨ada, rfl, hc0, ha0, ha1⟩ := map_cell h2 hN2 (k := 0) (by omega)
  obtain ⟨wb, hwb⟩ : ∃ wb, wb = w.alloc (.cells #[.slice Af 37 cf, .slice AP 37 cP] tFo) := ⟨_, rfl⟩
  have hbb : Below w.heap.size w wb := by rw [hwb]; exact below1 w _
  have HBX := Lib.hid hbb
  have HF := Lib.hid (show Blk wb w.heap.size tFo #[.slice Af 37 cf, .slice AP 37 cP] from by rw [hwb]; exact Blk.new _ _ _)
  have HP := Lib.hid (hP.below hbb)
  have HB1 := Lib.hid (h1.below hbb)
  have HA1 := Lib.hid (h2.below hbb)
  have HNB := Lib.hid hN1
  have HNA := Lib.hid hN2
  have HLB := Lib.hid l1
  have HSZ := Lib.hid (cvZ_len a b)
  obtain ⟨y0, hy0⟩ : ∃ y0, y0 = b.getD 0 0 := ⟨_, rfl⟩
  rw [← hy0] at hc0
  have HS0 := Lib.hid (show ints ((cvZ a b).take 1) = [.int .i64 y0] from by rw [hy0]; rfl)
  have OL := Lib.hid (show Own (wb.alloc (.cells #[.int .i64 y0] tI)) wb.heap.size tI (.slice (some ⟨wb.heap.size, 0, none⟩) 1 1) (ints ((cvZ a b).take 1)) from by rw [HS0.out]; exact own_lit wb tI [.int .i64 y0] (by simp [maxLen]))
  have hc0' : wb.cell? ada = some (.int .i64 y0) := keepCell hbb (by simpa [Addr.add] using hc0)
  have hf0 : wb.cell? ⟨w.heap.size, 0, none⟩ = some (.slice Af 37 cf) := HF.out.cell 0
  have hf1 : wb.cell? ⟨w.heap.size, 1, none⟩ = some (.slice AP 37 cP) := HF.out.cell 1
  have hf1a : ∀ o, (wb.alloc o).cell? ⟨w.heap.size, 1, none⟩ = some (.slice AP 37 cP) := fun o => (HF.out.alloc o).cell 1
  clear hy0 ha0 ha1
  clear hP h1 h2 l1 l2 hN1 hN2 hc0 hbb
  go_enter Tryz.func97, Tryz.ntmps97
  go_upto_region 1 with fail
  rw [← hwb]
  clear hwb
  go_wp2_with fail
  clear hf0 hf1 hf1a hc0'
  go_loopw [7, 20] (fun o x wr => ∃ i : Nat, i ≤ 37 ∧ x = .int .i64 i ∧ Own wr wb.heap.size tI o (ints ((cvZ a b).take (i + 1))) ∧ Below wb.heap.size wb wr) (fun _ x _ => 37 - (intOf x).toNat)
  case atStart => exact ⟨0, Nat.zero_le _, rfl, OL.out, below1 wb _⟩
  case round =>
    obtain ⟨i, hi, rfl, ho, hb⟩ := hrel
    rename World => wq
    clear OL
    have hel : ((cvZ a b).take (i + 1)).length = i + 1 := by rw [List.length_take, HSZ.out]; omega
    have hol := ho.cells.open_
    rw [ints_len, hel] at hol
    obtain ⟨Ao, co, rfl, -, -⟩ := hol
    have HEL := Lib.hid hel
    have HO := Lib.hid ho
    have HBQ := Lib.hid hb
    obtain ⟨AP', cP', he, hat⟩ := (HP.out.below hb).at_
    simp only [Value.slice.injEq, true_and] at he
    obtain ⟨rfl, rfl⟩ := he
    clear ho hel
    by_cases hlt : i < 37
    · obtain ⟨adp, css, A2, c2, rfl, ho2, hm2, hcp⟩ := hat i hlt
      have htm := tr_mem hlt
      have hpl := CTab_ln hlt
      obtain ⟨L, hL⟩ : ∃ L, L = CTab.getD i [] := ⟨_, rfl⟩
      rw [← hL] at hm2 hpl
      have HLE := Lib.hid hL
      have HPL := Lib.hid hpl
      have hcl := hm2.1
      have HCL := Lib.hid hcl
      have hc5 : css.length ≤ 100 := by rw [hcl]; exact hpl
      have HO2 := Lib.hid ho2
      have HM2 := Lib.hid hm2
      have HTS := Lib.hid (show ints ((cvZ a b).take (i + 1 + 1)) = ints ((cvZ a b).take (i + 1)) ++ [.int .i64 (sumF (tcI a b) L % 10007)] from by
        have h1 : (cvZ a b)[i + 1]? = some (sumF (tcI a b) L % 10007) := by rw [hL]; exact cvZ_get a b hlt
        rw [List.take_add_one, h1, ints, ints, List.map_append]; rfl)
      have hii : (i : Int) < 37 := by omega
      clear hat hb htm hpl hL hcl ho2 hm2
      go_wp2_with fail
      go_loopw [10, 26] (fun s x wr => ∃ j : Nat, j ≤ css.length ∧ x = .int .i64 j ∧ s = .int .i64 (sumF (tcI a b) (L.take j)) ∧ Below wq.heap.size wq wr) (fun _ x _ => css.length - (intOf x).toNat)
      case atStart => exact ⟨0, Nat.zero_le _, rfl, rfl, Below.refl _ _⟩
      case round =>
        obtain ⟨j, hj, rfl, rfl, hb⟩ := hrel
        rename World => wc
        have HBC := Lib.hid hb
        have hsb : 0 ≤ sumF (tcI a b) (L.take j) ∧ sumF (tcI a b) (L.take j) ≤ 100 * 10006 := by
          have h := sumF_bd (tcI a b) 10006 (L.take j) fun x _ => tcI_bd a b x
          have h2 : (L.take j).length ≤ 100 := Nat.le_trans (List.length_take_le _ _) (by omega)
          have h3 := HPL.out
          rw [List.length_take] at h
          omega
        by_cases hlj : j < css.length
        · obtain ⟨⟨⟨cr, sk⟩, n⟩, hx⟩ : ∃ x, L[j]? = some x := ⟨_, List.getElem?_eq_getElem (by rw [← HCL.out]; exact hlj)⟩
          have hxm := List.mem_of_getElem? hx
          obtain ⟨hcr, hsk, hn⟩ := CTab_at hlt (x := ((cr, sk), n)) (by rw [← HLE.out]; exact hxm)
          have hn : n ≤ 100 := hn
          have hcr : ∀ p ∈ cr, p < 38 := hcr
          have hsk : sk < 38 := hsk
          obtain ⟨go, As, cs, rfl, hs1, hq0, hq1, hq2⟩ := part_at (HO2.out.below hb) (HM2.out.below hb) hx
          have hs1 : OwnInts wc Bp tN (.slice As cr.length cs) (up cr) := hs1
          have hq0 : wc.cell? ⟨go, j * 3, none⟩ = some (.int .i64 n) := hq0
          have hq1 : wc.cell? ⟨go, j * 3 + 1, none⟩ = some (.slice As cr.length cs) := hq1
          have hq2 : wc.cell? ⟨go, j * 3 + 2, none⟩ = some (.int .i64 sk) := hq2
          have HTJ := Lib.hid (show sumF (tcI a b) (L.take (j + 1)) = sumF (tcI a b) (L.take j) + (n : Int) * (valZ a cr * b.getD sk 0 % 10007) % 10007 from by rw [sumF_take _ hx]; rfl)
          have HCR := Lib.hid hcr
          generalize sumF (tcI a b) (L.take j) = sm at *
          obtain ⟨_, he, hcx, hx0, hx1⟩ := map_cell ((HA1.out.below HBQ.out).below hb) HNA.out (k := sk) hsk
          simp only [Option.some.injEq] at he
          subst he
          have hvb := valZ_bd a cr
          have HVB := Lib.hid (show valZ a cr = valZ a cr from rfl)
          obtain ⟨V, hV⟩ : ∃ V, V = valZ a cr := ⟨_, rfl⟩
          rw [← hV] at hvb HTJ
          have HVE := Lib.hid hV
          generalize b.getD sk 0 = y at *
          obtain ⟨p1, p2⟩ := mul_bd 10006 10006 hvb.1 hvb.2 hx0 hx1
          have hmd : 0 ≤ V * y % 10007 ∧ V * y % 10007 ≤ 10006 := by omega
          obtain ⟨q1, q2⟩ := mul_bd 100 10006 (show (0 : Int) ≤ (n : Int) by omega) (show (n : Int) ≤ 100 by omega) hmd.1 hmd.2
          have hjj : (j : Int) < (css.length : Int) := by omega
          have hskk : (sk : Int) < 38 := by omega
          clear hxm hcr hx hV hb
          go_upto_region 9 with fail
          obtain ⟨W, hW⟩ : ∃ W, W = wc.alloc (.cells #[.int .i64 n, .slice As cr.length cs, .int .i64 sk] tMc) := ⟨_, rfl⟩
          have hbw : Below wc.heap.size wc W := by rw [hW]; exact below1 wc _
          have HBW := Lib.hid hbw
          have HKP := Lib.hid (show Blk W wc.heap.size tMc #[.int .i64 n, .slice As cr.length cs, .int .i64 sk] from by rw [hW]; exact Blk.new _ _ _)
          have HSW := Lib.hid (hs1.below hbw).ints
          have HBB := Lib.hid ((HB1.out.below HBQ.out).below (HBC.out.trans (hbw.mono HBC.out.size)))
          rw [← hW]
          clear hW hs1 hbw
          obtain ⟨S, hS1, hS2⟩ : ∃ S : World → Prop, (∀ Wx, S Wx → Below W.heap.size W Wx) ∧ (∀ Wx, Below W.heap.size W Wx → S Wx) := ⟨fun Wx => Below W.heap.size W Wx, fun _ h => h, fun _ h => h⟩
          have HSE := Lib.hid (show ∀ x : GW S, Below W.heap.size W x.w from fun x => hS1 _ x.h)
          have HSI := Lib.hid (show S W.drew from hS2 _ (Below.refl W.heap.size W).drew)
          have hx0' : ∀ x : GW S, x.w.cell? ⟨wc.heap.size, 0, none⟩ = some (.int .i64 n) := fun x => keepCell (HSE.out x) (HKP.out.cell 0)
          have hx1' : ∀ x : GW S, x.w.cell? ⟨wc.heap.size, 1, none⟩ = some (.slice As cr.length cs) := fun x => keepCell (HSE.out x) (HKP.out.cell 1)
          have hx2' : ∀ x : GW S, x.w.cell? ⟨wc.heap.size, 2, none⟩ = some (.int .i64 sk) := fun x => keepCell (HSE.out x) (HKP.out.cell 2)
          have hx3' : ∀ x : GW S, x.w.cell? (ada.add sk) = some (.int .i64 y) := fun x => keepCell ((HBW.out.trans ((HSE.out x).mono HBW.out.size))) hcx
          have HVL := Lib.hid (show ∀ x : GW S, Calls Tryz.prog 119 #[.slice Ab 38 cb, .slice As cr.length cs] x.w (fun e w' => e = .returned (.int .i64 V) ∧ S w') from fun x => (i_valueOf x.w _ _ a cr (HBB.out.below (HSE.out x)) HLB.out HNB.out (HSW.out.below (HSE.out x)) HCR.out).mono (by rintro e w7 ⟨rfl, rfl⟩; exact ⟨by rw [HVE.out], hS2 _ (HSE.out x)⟩))
          have HN1 := Lib.hid (show ∀ x : GW S, Calls Tryz.prog 64 #[.int .i64 (V * y)] x.w (fun e w' => e = .returned (.int .i64 (V * y % 10007)) ∧ S w') from fun x => (i_num (V * y) x.w (by omega) (by omega)).mono (by rintro e w7 ⟨rfl, rfl⟩; exact ⟨rfl, hS2 _ (HSE.out x)⟩))
          have hws1 : IntKind.i64.wrap (V * y) = V * y := IntWalk.i64_in _ (by omega)
          generalize V * y % 10007 = q at *
          have HN2 := Lib.hid (show ∀ x : GW S, Calls Tryz.prog 64 #[.int .i64 ((n : Int) * q)] x.w (fun e w' => e = .returned (.int .i64 ((n : Int) * q % 10007)) ∧ S w') from fun x => (i_num ((n : Int) * q) x.w (by omega) (by omega)).mono (by rintro e w7 ⟨rfl, rfl⟩; exact ⟨rfl, hS2 _ (HSE.out x)⟩))
          have hws2 : IntKind.i64.wrap ((n : Int) * q) = (n : Int) * q := IntWalk.i64_in _ (by omega)
          have hq3 : 0 ≤ (n : Int) * q % 10007 ∧ (n : Int) * q % 10007 ≤ 10006 := by omega
          clear hS1 hS2 hq0 hq1 hq2 hcx
          refine wp_region_grow S (by kernel_rfl) (by kernel_rfl) HSI.out (fun hne => ?_)
          repeat (go_big_quiet_step ((first
            | (go_at_call 119; exact grow_call (HVL.out _))
            | (go_at_call_of 64 V; exact grow_call (HN1.out _))
            | (go_at_call 64; exact grow_call (HN2.out _)))))
          refine wpQuiet_nil ?_
          rintro _ ⟨xq, rfl⟩
          clear hx0' hx1' hx2' hx3'
          go_wp2_with fail
          go_roundw
          case rel => exact ⟨j + 1, by omega, by go_num, by rw [HTJ.out], HBC.out.trans ((HBW.out.trans ((HSE.out xq).mono HBW.out.size)).mono HBC.out.size)⟩
          case measure => simp [intOf]; omega
        · have hjl : L.take j = L := List.take_of_length_le (by rw [← HCL.out]; omega)
          rw [hjl] at hsb ⊢
          have HOX := Lib.hid (HO.out.below HBC.out)
          clear hjl hb
          generalize sumF (tcI a b) L = sm at *
          go_wp2_with (first
            | (go_at_call 64; refine (i_num sm _ (by omega) (by omega)).mono ?_; rintro e w' ⟨rfl, rfl⟩)
            | (at_builtin; go_loud (refine wpList_app1 T_int HOX.out (by rw [ints_len, HEL.out]; omega) (Nat.le_trans HBQ.out.size HBC.out.size) (by rfl) rfl (by rfl) (by rfl) (by rfl) ?_; intro v1 w6 hown1 hgr1; have HN := Lib.hid hown1; have HGR := Lib.hid hgr1; clear hown1 hgr1)))
          go_roundw
          case rel =>
            refine ⟨i + 1, by omega, by go_num, ?_, HGR.out.below (HBQ.out.trans (HBC.out.mono HBQ.out.size)) (Nat.le_trans HBQ.out.size HBC.out.size) HO.out.ge⟩
            rw [HTS.out]; exact HN.out
          case measure => simp [intOf]; omega
    · have hil : i + 1 = (cvZ a b).length := by rw [HSZ.out]; omega
      have HFF := Lib.hid (show (cvZ a b).take (i + 1) = cvZ a b from by rw [hil]; exact List.take_length)
      clear hil
      go_wp2_with fail
      go_ret
      refine ⟨_, rfl, ⟨?_, fun z hz => in64_num (cvZ_nums HNA.out z hz)⟩, HBX.out.trans (HBQ.out.mono HBX.out.size)⟩
      have h := HO.out
      rw [HFF.out] at h
      exact h.mono HBX.out.size
end Go.Proofs.YtnlaoainhlfemaaGreat

set_option maxRecDepth 100000
set_option linter.unusedVariables false
set_option linter.unusedSimpArgs false
namespace Go.Proofs.YtnlaoainhlfemaaGreat
open Go.RowKit

set_option maxHeartbeats 16000000 in
theorem i_inverseMap (w : World) (vp va : Value) (Af : Option Addr) (cf Bp : Nat) (a : List Int) (hP : FrC w Bp vp) (h2 : Ints w va a) (l2 : a.length = 38) (hN2 : Nums a) :
    Calls Tryz.prog 57 #[.agg #[.slice Af 37 cf, vp], va] w fun e w' => ∃ x, e = .returned x ∧ OwnInts w' w.heap.size tI x (invL a 37) ∧ Below w.heap.size w w' := by
  obtain ⟨AP, cP, rfl, -⟩ := hP.at_
  obtain ⟨Aa, ca, rfl, -, -, -⟩ := h2.open_
  rw [l2] at h2 ⊢
  obtain ⟨ada, rfl, -, -, -⟩ := map_cell h2 hN2 (k := 0) (by omega)
  obtain ⟨wb, hwb⟩ : ∃ wb, wb = w.alloc (.cells #[.slice Af 37 cf, .slice AP 37 cP] tFo) := ⟨_, rfl⟩
  have hbb : Below w.heap.size w wb := by rw [hwb]; exact below1 w _
  have HBX := Lib.hid hbb
  have HF := Lib.hid (show Blk wb w.heap.size tFo #[.slice Af 37 cf, .slice AP 37 cP] from by rw [hwb]; exact Blk.new _ _ _)
  have HP := Lib.hid (hP.below hbb)
  have HA1 := Lib.hid (h2.below hbb)
  have HNA := Lib.hid hN2
  have HSZ := Lib.hid (invL_len a)
  have OL := Lib.hid (show Own (wb.alloc (.cells #[.int .i64 1] tI)) wb.heap.size tI (.slice (some ⟨wb.heap.size, 0, none⟩) 1 1) (ints (invL a 0)) from own_lit wb tI [.int .i64 1] (by simp [maxLen]))
  have hf0 : wb.cell? ⟨w.heap.size, 0, none⟩ = some (.slice Af 37 cf) := HF.out.cell 0
  have hf1 : wb.cell? ⟨w.heap.size, 1, none⟩ = some (.slice AP 37 cP) := HF.out.cell 1
  have hf1a : ∀ o, (wb.alloc o).cell? ⟨w.heap.size, 1, none⟩ = some (.slice AP 37 cP) := fun o => (HF.out.alloc o).cell 1
  clear hP h2 l2 hN2 hbb
  go_enter Tryz.func57, Tryz.ntmps57
  go_upto_region 1 with fail
  rw [← hwb]
  clear hwb
  go_wp2_with fail
  clear hf0 hf1 hf1a
  go_loopw [5, 15] (fun o x wr => ∃ i : Nat, i ≤ 37 ∧ x = .int .i64 i ∧ Own wr wb.heap.size tI o (ints (invL a i)) ∧ Below wb.heap.size wb wr) (fun _ x _ => 37 - (intOf x).toNat)
  case atStart => exact ⟨0, Nat.zero_le _, rfl, OL.out, below1 wb _⟩
  case round =>
    obtain ⟨i, hi, rfl, ho, hb⟩ := hrel
    rename World => wq
    clear OL
    have hel : (invL a i).length = i + 1 := HSZ.out i
    have hol := ho.cells.open_
    rw [ints_len, hel] at hol
    obtain ⟨Ao, co, rfl, -, -⟩ := hol
    have HEL := Lib.hid hel
    have HO := Lib.hid ho
    have HBQ := Lib.hid hb
    obtain ⟨AP', cP', he, hat⟩ := (HP.out.below hb).at_
    simp only [Value.slice.injEq, true_and] at he
    obtain ⟨rfl, rfl⟩ := he
    clear ho hel
    by_cases hlt : i < 37
    · obtain ⟨adp, css, A2, c2, rfl, ho2, hm2, hcp⟩ := hat i hlt
      have hpl := CTab_ln hlt
      obtain ⟨L, hL⟩ : ∃ L, L = CTab.getD i [] := ⟨_, rfl⟩
      rw [← hL] at hm2 hpl
      have HLE := Lib.hid hL
      have HPL := Lib.hid hpl
      have hcl := hm2.1
      have HCL := Lib.hid hcl
      have hc5 : css.length ≤ 100 := by rw [hcl]; exact hpl
      have HO2 := Lib.hid ho2
      have HM2 := Lib.hid hm2
      obtain ⟨b, hbE⟩ : ∃ b, b = invL a i := ⟨_, rfl⟩
      have HTS := Lib.hid (show ints (invL a (i + 1)) = ints b ++ [.int .i64 ((-(sumF (tpI b a) L)) % 10007)] from by
        rw [invL, ← hL, ← hbE, ints, ints, List.map_append]; rfl)
      have HNB := Lib.hid (show Nums b from by rw [hbE]; exact invL_nums a i)
      rw [← hbE] at HEL HO
      have HOI := Lib.hid (show OwnInts wq wb.heap.size tI (.slice Ao (i + 1) co) b from ⟨HO.out, fun z hz => in64_num (HNB.out z hz)⟩)
      have hii : (i : Int) < 37 := by omega
      clear hat hb hpl hL hcl ho2 hm2 hbE
      go_wp2_with fail
      go_loopw [8, 21] (fun s x wr => ∃ j : Nat, j ≤ css.length ∧ x = .int .i64 j ∧ s = .int .i64 (sumF (tpI b a) (L.take j)) ∧ Below wq.heap.size wq wr) (fun _ x _ => css.length - (intOf x).toNat)
      case atStart => exact ⟨0, Nat.zero_le _, rfl, rfl, Below.refl _ _⟩
      case round =>
        obtain ⟨j, hj, rfl, rfl, hb⟩ := hrel
        rename World => wc
        have HBC := Lib.hid hb
        have hsb : 0 ≤ sumF (tpI b a) (L.take j) ∧ sumF (tpI b a) (L.take j) ≤ 100 * 10006 := by
          have h := sumF_bd (tpI b a) 10006 (L.take j) fun x _ => tpI_bd b a x
          have h2 : (L.take j).length ≤ 100 := Nat.le_trans (List.length_take_le _ _) (by omega)
          have h3 := HPL.out
          rw [List.length_take] at h
          omega
        by_cases hlj : j < css.length
        · obtain ⟨⟨⟨cr, sk⟩, n⟩, hx⟩ : ∃ x, L[j]? = some x := ⟨_, List.getElem?_eq_getElem (by rw [← HCL.out]; exact hlj)⟩
          have hxm := List.mem_of_getElem? hx
          obtain ⟨-, hsk, hn⟩ := CTab_at hlt (x := ((cr, sk), n)) (by rw [← HLE.out]; exact hxm)
          have hcr := (tp_at (p := i + 1) (by omega) (by omega) (x := ((cr, sk), n)) (by show _ ∈ CTab.getD i []; rw [← HLE.out]; exact hxm)).1
          have hn : n ≤ 100 := hn
          have hcr : 0 < sk → ∀ p ∈ cr, p < i + 1 := hcr
          have hsk : sk < 38 := hsk
          obtain ⟨go, As, cs, rfl, hs1, hq0, hq1, hq2⟩ := part_at (HO2.out.below hb) (HM2.out.below hb) hx
          have hs1 : OwnInts wc Bp tN (.slice As cr.length cs) (up cr) := hs1
          have hq0 : wc.cell? ⟨go, j * 3, none⟩ = some (.int .i64 n) := hq0
          have hq1 : wc.cell? ⟨go, j * 3 + 1, none⟩ = some (.slice As cr.length cs) := hq1
          have hq2 : wc.cell? ⟨go, j * 3 + 2, none⟩ = some (.int .i64 sk) := hq2
          have HTJ := Lib.hid (show sumF (tpI b a) (L.take (j + 1)) = sumF (tpI b a) (L.take j) + (bif Nat.blt 0 sk then (n : Int) * (valZ b cr * a.getD sk 0 % 10007) % 10007 else 0) from by rw [sumF_take _ hx]; rfl)
          generalize sumF (tpI b a) (L.take j) = sm at *
          have hjj : (j : Int) < (css.length : Int) := by omega
          have hskk : (sk : Int) < 38 := by omega
          by_cases hpos : 0 < sk
          · have HTJ := Lib.hid (show sumF (tpI b a) (L.take (j + 1)) = sm + (n : Int) * (valZ b cr * a.getD sk 0 % 10007) % 10007 from by rw [HTJ.out, show Nat.blt 0 sk = true from Nat.ble_eq_true_of_le hpos]; rfl)
            have HCR := Lib.hid (hcr hpos)
            have hpp : (0 : Int) < (sk : Int) := by omega
            obtain ⟨_, he, hcx, hx0, hx1⟩ := map_cell ((HA1.out.below HBQ.out).below hb) HNA.out (k := sk) hsk
            simp only [Option.some.injEq] at he
            subst he
            have hvb := valZ_bd b cr
            obtain ⟨V, hV⟩ : ∃ V, V = valZ b cr := ⟨_, rfl⟩
            rw [← hV] at hvb HTJ
            have HVE := Lib.hid hV
            generalize a.getD sk 0 = y at *
            obtain ⟨p1, p2⟩ := mul_bd 10006 10006 hvb.1 hvb.2 hx0 hx1
            have hmd : 0 ≤ V * y % 10007 ∧ V * y % 10007 ≤ 10006 := by omega
            obtain ⟨q1, q2⟩ := mul_bd 100 10006 (show (0 : Int) ≤ (n : Int) by omega) (show (n : Int) ≤ 100 by omega) hmd.1 hmd.2
            clear hxm hcr hx hV hb
            go_upto_region 10 with fail
            obtain ⟨W, hW⟩ : ∃ W, W = wc.alloc (.cells #[.int .i64 n, .slice As cr.length cs, .int .i64 sk] tMc) := ⟨_, rfl⟩
            have hbw : Below wc.heap.size wc W := by rw [hW]; exact below1 wc _
            have HBW := Lib.hid hbw
            have HKP := Lib.hid (show Blk W wc.heap.size tMc #[.int .i64 n, .slice As cr.length cs, .int .i64 sk] from by rw [hW]; exact Blk.new _ _ _)
            have HSW := Lib.hid (hs1.below hbw).ints
            have HBB := Lib.hid ((HOI.out.below (HBC.out.trans (hbw.mono HBC.out.size))).ints)
            rw [← hW]
            clear hW hs1 hbw
            obtain ⟨S, hS1, hS2⟩ : ∃ S : World → Prop, (∀ Wx, S Wx → Below W.heap.size W Wx) ∧ (∀ Wx, Below W.heap.size W Wx → S Wx) := ⟨fun Wx => Below W.heap.size W Wx, fun _ h => h, fun _ h => h⟩
            have HSE := Lib.hid (show ∀ x : GW S, Below W.heap.size W x.w from fun x => hS1 _ x.h)
            have HSI := Lib.hid (show S W.drew from hS2 _ (Below.refl W.heap.size W).drew)
            have hx0' : ∀ x : GW S, x.w.cell? ⟨wc.heap.size, 0, none⟩ = some (.int .i64 n) := fun x => keepCell (HSE.out x) (HKP.out.cell 0)
            have hx1' : ∀ x : GW S, x.w.cell? ⟨wc.heap.size, 1, none⟩ = some (.slice As cr.length cs) := fun x => keepCell (HSE.out x) (HKP.out.cell 1)
            have hx2' : ∀ x : GW S, x.w.cell? ⟨wc.heap.size, 2, none⟩ = some (.int .i64 sk) := fun x => keepCell (HSE.out x) (HKP.out.cell 2)
            have hx3' : ∀ x : GW S, x.w.cell? (ada.add sk) = some (.int .i64 y) := fun x => keepCell ((HBW.out.trans ((HSE.out x).mono HBW.out.size))) hcx
            have HVL := Lib.hid (show ∀ x : GW S, Calls Tryz.prog 119 #[.slice Ao (i + 1) co, .slice As cr.length cs] x.w (fun e w' => e = .returned (.int .i64 V) ∧ S w') from fun x => (i_valueOfG x.w _ _ b cr (HBB.out.below (HSE.out x)) (by rw [HEL.out]; omega) HNB.out (HSW.out.below (HSE.out x)) (by rw [HEL.out]; exact HCR.out)).mono (by rintro e w7 ⟨rfl, rfl⟩; exact ⟨by rw [HVE.out], hS2 _ (HSE.out x)⟩))
            have HN1 := Lib.hid (show ∀ x : GW S, Calls Tryz.prog 64 #[.int .i64 (V * y)] x.w (fun e w' => e = .returned (.int .i64 (V * y % 10007)) ∧ S w') from fun x => (i_num (V * y) x.w (by omega) (by omega)).mono (by rintro e w7 ⟨rfl, rfl⟩; exact ⟨rfl, hS2 _ (HSE.out x)⟩))
            have hws1 : IntKind.i64.wrap (V * y) = V * y := IntWalk.i64_in _ (by omega)
            generalize V * y % 10007 = q at *
            have HN2 := Lib.hid (show ∀ x : GW S, Calls Tryz.prog 64 #[.int .i64 ((n : Int) * q)] x.w (fun e w' => e = .returned (.int .i64 ((n : Int) * q % 10007)) ∧ S w') from fun x => (i_num ((n : Int) * q) x.w (by omega) (by omega)).mono (by rintro e w7 ⟨rfl, rfl⟩; exact ⟨rfl, hS2 _ (HSE.out x)⟩))
            have hws2 : IntKind.i64.wrap ((n : Int) * q) = (n : Int) * q := IntWalk.i64_in _ (by omega)
            have hq3 : 0 ≤ (n : Int) * q % 10007 ∧ (n : Int) * q % 10007 ≤ 10006 := by omega
            clear hS1 hS2 hq0 hq1 hq2 hcx
            refine wp_region_grow S (by kernel_rfl) (by kernel_rfl) HSI.out (fun hne => ?_)
            repeat (go_big_quiet_step ((first
              | (go_at_call 119; exact grow_call (HVL.out _))
              | (go_at_call_of 64 V; exact grow_call (HN1.out _))
              | (go_at_call 64; exact grow_call (HN2.out _)))))
            refine wpQuiet_nil ?_
            rintro _ ⟨xq, rfl⟩
            clear hx0' hx1' hx2' hx3'
            go_wp2_with fail
            go_roundw
            case rel => exact ⟨j + 1, by omega, by go_num, by rw [HTJ.out], HBC.out.trans ((HBW.out.trans ((HSE.out xq).mono HBW.out.size)).mono HBC.out.size)⟩
            case measure => simp [intOf]; omega
          · have hz : sk = 0 := by omega
            subst hz
            have HTJ := Lib.hid (show sumF (tpI b a) (L.take (j + 1)) = sm from by rw [HTJ.out]; show sm + 0 = sm; omega)
            clear hxm hcr hx hb hpos
            go_wp2_with fail
            go_roundw
            case rel => exact ⟨j + 1, by omega, by go_num, by rw [HTJ.out], HBC.out.trans ((below1 wc _).mono HBC.out.size)⟩
            case measure => simp [intOf]; omega
        · have hjl : L.take j = L := List.take_of_length_le (by rw [← HCL.out]; omega)
          rw [hjl] at hsb ⊢
          have HOX := Lib.hid (HO.out.below HBC.out)
          clear hjl hb
          generalize sumF (tpI b a) L = sm at *
          go_wp2_with (first
            | (go_at_call 64; refine (i_num (-sm) _ (by omega) (by omega)).mono ?_; rintro e w' ⟨rfl, rfl⟩)
            | (at_builtin; go_loud (refine wpList_app1 T_int HOX.out (by rw [ints_len, HEL.out]; omega) (Nat.le_trans HBQ.out.size HBC.out.size) (by rfl) rfl (by rfl) (by rfl) (by rfl) ?_; intro v1 w6 hown1 hgr1; have HN := Lib.hid hown1; have HGR := Lib.hid hgr1; clear hown1 hgr1)))
          go_roundw
          case rel =>
            refine ⟨i + 1, by omega, by go_num, ?_, HGR.out.below (HBQ.out.trans (HBC.out.mono HBQ.out.size)) (Nat.le_trans HBQ.out.size HBC.out.size) HO.out.ge⟩
            rw [HTS.out]; exact HN.out
          case measure => simp [intOf]; omega
    · have hil : i = 37 := by omega
      subst hil
      go_wp2_with fail
      go_ret
      exact ⟨_, rfl, ⟨HO.out.mono HBX.out.size, fun z hz => in64_num (invL_nums a 37 z hz)⟩, HBX.out.trans (HBQ.out.mono HBX.out.size)⟩
end Go.Proofs.YtnlaoainhlfemaaGreat

