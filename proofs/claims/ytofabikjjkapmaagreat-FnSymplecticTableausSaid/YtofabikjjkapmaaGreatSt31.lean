/- A list that grows by append while older blocks, and newer ones that were laid behind its first block, are read. No walk. | Walks: the character of a tableau, InverseMap and ComposeTableaus of the reference. | Walks: ComposeTableaus of the reference, InverseMap. | The laws' remainder at any number that a law meets. -/
import Derived.Test.YtofabikjjkapmaaGreatSt2
import Derived.Test.YtofabikjjkapmaaGreatSt22
import Derived.Test.YtofabikjjkapmaaGreatSt24
import Derived.Test.YtofabikjjkapmaaGreatSt20
import Derived.Test.YtofabikjjkapmaaGreatSt25
import Derived.Test.YtofabikjjkapmaaGreatSt16
import Derived.Test.YtofabikjjkapmaaGreatSt18
import Derived.Test.YtofabikjjkapmaaGreatSt15
import Derived.Test.YtofabikjjkapmaaGreatSt3
import Derived.Test.YtofabikjjkapmaaGreatSt1
import Derived.Test.YtofabikjjkapmaaGreatSt8
set_option linter.unusedVariables false
set_option linter.unusedSimpArgs false
namespace Go.Proofs.YtofabikjjkapmaaGreat
open Go.RowKit

/-- wr came from w3 by appends to a list that first lay in block g -/
structure Apd (w3 wr : World) (g : Nat) (o : Value) : Prop where
  gr : w3.grownBy wr (some g)
  ob : ∀ b, o.ownBlock = some b → b = g ∨ w3.heap.size ≤ b
section
variable {w3 wr w5 w6 : World} {g : Nat} {o v1 : Value}
theorem Apd.refl (h : o.ownBlock = some g) : Apd w3 w3 g o := ⟨World.grownBy.refl _ _, fun b hb => .inl (by rw [h] at hb; injection hb with hb; exact hb.symm)⟩
theorem Apd.step (h : Apd w3 wr g o) (hb : Below wr.heap.size wr w5) : Apd w3 w5 g o :=
  ⟨⟨hb.os.trans h.gr.os, hb.tape.trans h.gr.tape, hb.output.trans h.gr.output, Nat.le_trans h.gr.size hb.size, fun k hk hne => (hb.block k (Nat.lt_of_lt_of_le hk h.gr.size)).trans (h.gr.block k hk hne)⟩, h.ob⟩
theorem Apd.app (h : Apd w3 wr g o) (hg : Grow wr w6 o v1) : Apd w3 w6 g v1 := by
  refine ⟨⟨hg.1.os.trans h.gr.os, hg.1.tape.trans h.gr.tape, hg.1.output.trans h.gr.output, Nat.le_trans h.gr.size hg.1.size, fun k hk hne => (hg.1.block k (Nat.lt_of_lt_of_le hk h.gr.size) (fun e => ?_)).trans (h.gr.block k hk hne)⟩, fun b hb => ?_⟩
  · rcases h.ob k e.symm with e2 | e2
    · exact hne (by rw [e2])
    · omega
  · rcases hg.2 with e | ⟨b', e, hle⟩
    · rw [e] at hb; exact h.ob b hb
    · rw [e] at hb
      injection hb with hb
      subst hb
      exact .inr (Nat.le_trans h.gr.size hle)
theorem Apd.cell (h : Apd w3 wr g o) {ad : Addr} {v : Value} (hc : w3.cell? ad = some v) (hne : ad.block ≠ g) : wr.cell? ad = some v := by
  exact h.gr.cell hc (fun e => hne (by injection e))
theorem Apd.ownBlk (h : Apd w3 wr g o) {B : Nat} {e : TypeId} {u : Value} {vs : List Value} (hO : Own w3 B e u vs) (hlt : g < B) : Own wr B e u vs := hO.kept h.gr (by
  cases hb : u.ownBlock with
  | none => exact .inl rfl
  | some b => exact .inr fun e => by injection e with e; have := hO.ge b hb; omega)
theorem Apd.ints (h : Apd w3 wr g o) {B : Nat} {e : TypeId} {u : Value} {zs : List Int} (hO : OwnInts w3 B e u zs) (hlt : g < B) : OwnInts wr B e u zs := ⟨h.ownBlk hO.1 hlt, hO.2⟩
end
end Go.Proofs.YtofabikjjkapmaaGreat

set_option maxRecDepth 100000
set_option linter.unusedVariables false
set_option linter.unusedSimpArgs false
namespace Go.Proofs.YtofabikjjkapmaaGreat
open Go.RowKit

theorem chT_nums (A : List (List Int)) (B : List Int) : Nums (chT A B) := chF_nums _ _ _
theorem chT_take1 (A : List (List Int)) (B : List Int) : (chT A B).take 1 = [1] := by
  have h := chT_len A B
  have h0 : (chT A B).getD 0 0 = 1 := (chr_chF B.length (fT A) (fB B)).one
  cases hc : chT A B with
  | nil => rw [hc] at h; simp at h
  | cons x l => rw [hc] at h0; simp at h0; simp [h0]
theorem chT_takeS (A : List (List Int)) (B : List Int) {i : Nat} (hi : i < 37) : (chT A B).take (i + 1 + 1) = (chT A B).take (i + 1) ++ [(chT A B).getD (i + 1) 0] := by
  have h := chT_len A B
  rw [List.take_add_one, List.getD_eq_getElem?_getD, List.getElem?_eq_getElem (by omega)]
  rfl
set_option maxHeartbeats 8000000 in
theorem im_character {A : List (List Int)} {Bs : List Int} (hT : SqT A Bs Bs.length) (h1 : 1 ≤ Bs.length) (h8 : Bs.length ≤ 8) (w : World) (va : Value) (ha : TabArg w va A Bs) :
    Calls Tryz.prog 81 #[va] w fun e w' => ∃ x, e = .returned x ∧ OwnInts w' w.heap.size tI x (chT A Bs) ∧ Below w.heap.size w w' := by
  obtain ⟨va1, vb1, rfl, ha1, ha2⟩ := ha
  obtain ⟨A1, c1, rfl, -, -, -⟩ := ha1.open_
  obtain ⟨A2, c2, rfl, -, -, -⟩ := ha2.open_
  obtain ⟨W, hW⟩ : ∃ W, W = w.alloc (.cells #[.slice A1 A.length c1, .slice A2 Bs.length c2] 37) := ⟨_, rfl⟩
  have hbw : Below w.heap.size w W := by rw [hW]; exact below1 w _
  have HBW := Lib.hid hbw
  have HKF := Lib.hid (show Blk W w.heap.size 37 #[.slice A1 A.length c1, .slice A2 Bs.length c2] from by rw [hW]; exact Blk.new _ _ _)
  have HTA := Lib.hid (show TabArg W (.agg #[.slice A1 A.length c1, .slice A2 Bs.length c2]) A Bs from ⟨_, _, rfl, ha1.below hbw, ha2.below hbw⟩)
  have HLK := Lib.hid (fun n (hn : n < 37) => im_weight hT h1 h8 n hn)
  have OL := Lib.hid (show Own (W.alloc (.cells #[.int .i64 1] tI)) W.heap.size tI (.slice (some ⟨W.heap.size, 0, none⟩) 1 1) (ints ((chT A Bs).take 1)) from by rw [chT_take1]; exact own_lit W tI [.int .i64 1] (by simp [maxLen]))
  have HBO := Lib.hid (below1 W (.cells #[.int .i64 1] tI))
  clear ha1 ha2 hbw
  go_enter Tryz.func81, Tryz.ntmps81
  go_upto_region 1 with fail
  rw [← hW]
  clear hW
  go_wp2_with (go_at_call 91; go_loud (refine (i_treesTo _ 6 (by omega)).mono ?_; rintro e w3 ⟨x3, rfl, hl3, hb3⟩; rw [show allG treesN 6 = T6n from rfl] at hl3; obtain ⟨A3, c3, he3, -, -, -⟩ := hl3.rows.open_; rw [List.length_map, T6n_len] at he3; subst he3; have HX3 := Lib.hid hl3; have HB3 := Lib.hid (HBO.out.trans (hb3.mono HBO.out.size)); have HO3 := Lib.hid (OL.out.below hb3); have HGS := Lib.hid (show W.heap.size < (W.alloc (.cells #[.int .i64 1] tI)).heap.size from by simp); clear hl3 hb3))
  go_loopw [3, 9] (fun o x wr => ∃ i : Nat, i ≤ 37 ∧ x = .int .i64 i ∧ Own wr W.heap.size tI o (ints ((chT A Bs).take (i + 1))) ∧ Apd w3 wr W.heap.size o ∧ Below W.heap.size W wr) (fun _ x _ => 37 - (intOf x).toNat)
  case atStart => exact ⟨0, Nat.zero_le _, rfl, HO3.out, Apd.refl rfl, HB3.out⟩
  case round =>
    obtain ⟨i, hi, rfl, ho, hb, hb2⟩ := hrel
    rename World => wq
    have HB := Lib.hid hb
    have HBQ := Lib.hid hb2
    have hel : ((chT A Bs).take (i + 1)).length = i + 1 := by rw [List.length_take, chT_len]; omega
    have hol := ho.cells.open_
    rw [ints_len, hel] at hol
    obtain ⟨Ao, co, rfl, -, -⟩ := hol
    have HEL := Lib.hid hel
    have HO := Lib.hid ho
    clear hb hb2 ho hel OL HO3
    by_cases hlt : i < 37
    · obtain ⟨ad, At, ct, t, rfl, ht, hti, hcr⟩ := (show Rows wq (.slice A3 37 c3) (T6n.map up) from (HX3.out.keptLt HB.out.gr HGS.out).rows).treeB hlt
      have htr := tr_at ht
      subst htr
      have HKQ := Lib.hid (HKF.out.below HBQ.out HKF.out.lt)
      have q0 : wq.cell? ⟨w.heap.size, 0, none⟩ = some (.slice A1 A.length c1) := HKQ.out.cell 0
      have q1 : wq.cell? ⟨w.heap.size, 1, none⟩ = some (.slice A2 Bs.length c2) := HKQ.out.cell 1
      have HLC := Lib.hid (HLK.out i hlt wq _ _ (HTA.out.below HBQ.out) hti)
      have HTS := Lib.hid (show ints ((chT A Bs).take (i + 1 + 1)) = ints ((chT A Bs).take (i + 1)) ++ [.int .i64 ((chT A Bs).getD (i + 1) 0)] from by rw [chT_takeS A Bs hlt, ints, ints, List.map_append]; rfl)
      have hii : (i : Int) < 37 := by omega
      generalize (chT A Bs).getD (i + 1) 0 = cc at HLC HTS
      clear hti ht
      go_wp2_with (first
        | (go_at_call 148; go_loud (refine HLC.out.mono ?_; rintro e w5 ⟨rfl, hb5⟩; have HB5 := Lib.hid hb5; have HO5 := Lib.hid (HO.out.below hb5); clear hb5))
        | (at_builtin; go_loud (refine wpList_app1 T_int HO5.out (by rw [ints_len, HEL.out]; omega) (Nat.le_trans HBQ.out.size HB5.out.size) (by rfl) rfl (by rfl) (by rfl) (by rfl) ?_; intro v1 w6 hown1 hgr1; have HNN := Lib.hid hown1; have HGR := Lib.hid hgr1; clear hown1 hgr1)))
      go_roundw
      case rel => exact ⟨i + 1, by omega, by go_num, by rw [HTS.out]; exact HNN.out, (HB.out.step HB5.out).app HGR.out, HGR.out.below (HBQ.out.trans (HB5.out.mono HBQ.out.size)) (Nat.le_trans HBQ.out.size HB5.out.size) HO.out.ge⟩
      case measure => simp [intOf]; omega
    · have hil : i = 37 := by omega
      subst hil
      have htl : (chT A Bs).take (37 + 1) = chT A Bs := List.take_of_length_le (by rw [chT_len]; omega)
      rw [htl] at HO
      go_wp2_with fail
      go_ret
      exact ⟨_, rfl, ⟨HO.out.mono HBW.out.size, fun z hz => in64_num (chT_nums A Bs z hz)⟩, HBW.out.trans (HBQ.out.mono HBW.out.size)⟩
set_option maxHeartbeats 2000000 in
theorem i_CharacterOf0 (w : World) (v : Value) (A : List (List Int)) (Bs : List Int) (ha : TabArg w v A Bs) (hb : tabB A Bs = true) :
    Calls Tryz.prog 33 #[v] w fun e w' => ∃ x, e = .returned (.tuple #[x, .int .i64 0]) ∧ OwnInts w' w.heap.size tI x (chT A Bs) ∧ Below w.heap.size w w' := by
  obtain ⟨va1, vb1, rfl, ha1, ha2⟩ := ha
  obtain ⟨A1, c1, rfl, -, -, -⟩ := ha1.open_
  obtain ⟨A2, c2, rfl, -, -, -⟩ := ha2.open_
  obtain ⟨W, hW⟩ : ∃ W, W = w.alloc (.cells #[.slice A1 A.length c1, .slice A2 Bs.length c2] 37) := ⟨_, rfl⟩
  have hbw : Below w.heap.size w W := by rw [hW]; exact below1 w _
  have HBW := Lib.hid hbw
  have HKF := Lib.hid (show Blk W w.heap.size 37 #[.slice A1 A.length c1, .slice A2 Bs.length c2] from by rw [hW]; exact Blk.new _ _ _)
  have HTA := Lib.hid (show TabArg W (.agg #[.slice A1 A.length c1, .slice A2 Bs.length c2]) A Bs from ⟨_, _, rfl, ha1.below hbw, ha2.below hbw⟩)
  have HIT := Lib.hid (i_IsTableau W _ A Bs HTA.out)
  rw [hb] at HIT
  have hI := isTab_of hb
  have HO := Lib.hid (fun X (hX : TabArg X (.agg #[.slice A1 A.length c1, .slice A2 Bs.length c2]) A Bs) => im_character (SqT.of hI) hI.lo hI.hi X _ hX)
  clear ha1 ha2 hbw hb hI
  have q0 : W.cell? ⟨w.heap.size, 0, none⟩ = some (.slice A1 A.length c1) := HKF.out.cell 0
  have q1 : W.cell? ⟨w.heap.size, 1, none⟩ = some (.slice A2 Bs.length c2) := HKF.out.cell 1
  go_enter Tryz.func33, Tryz.ntmps33
  go_upto_region 1 with fail
  rw [← hW]
  clear hW
  go_wp2_with (first
    | (go_at_call 73; go_loud (refine HIT.out.mono ?_; rintro e w2 ⟨rfl, hb2⟩; have HB2 := Lib.hid hb2; have m1 : w2.cell? ⟨w.heap.size, 0, none⟩ = some (.slice A1 A.length c1) := (HKF.out.below hb2 HKF.out.lt).cell 0; have m2 : w2.cell? ⟨w.heap.size, 1, none⟩ = some (.slice A2 Bs.length c2) := (HKF.out.below hb2 HKF.out.lt).cell 1; clear hb2))
    | (go_at_call 81; go_loud (refine (HO.out _ (HTA.out.below HB2.out)).mono ?_; rintro e w3 ⟨x3, rfl, ho3, hb3⟩; have HO3 := Lib.hid (ho3.mono (Nat.le_trans HBW.out.size HB2.out.size)); have HB3 := Lib.hid (HB2.out.trans (hb3.mono HB2.out.size)); clear ho3 hb3)))
  go_ret2
  exact ⟨_, rfl, HO3.out, HBW.out.trans (HB3.out.mono HBW.out.size)⟩
end Go.Proofs.YtofabikjjkapmaaGreat

set_option maxRecDepth 100000
set_option linter.unusedVariables false
set_option linter.unusedSimpArgs false
namespace Go.Proofs.YtofabikjjkapmaaGreat
open Go.RowKit

end Go.Proofs.YtofabikjjkapmaaGreat

set_option maxRecDepth 100000
set_option linter.unusedVariables false
set_option linter.unusedSimpArgs false
namespace Go.Proofs.YtofabikjjkapmaaGreat
open Go.RowKit

theorem tmod_numW (x : Int) : (x.tmod 10007 + 10007) % 10007 = x % 10007 := by
  rw [Int.tmod_eq_emod]; split <;> omega
set_option maxHeartbeats 1000000 in
theorem l_mod9w (w : World) (x : Int) (h0 : -1000000000 ≤ x) (h1 : x ≤ 1000000000) :
    Calls Tryz.prog 31 #[.int .i64 x] w fun e w' => e = .returned (.int .i64 (x % 10007)) ∧ w = w' := by
  have h2 : -10007 < x.tmod 10007 := by rw [Int.tmod_eq_emod]; split <;> omega
  have h3 : x.tmod 10007 < 10007 := by rw [Int.tmod_eq_emod]; split <;> omega
  have HT := Lib.hid (tmod_numW x)
  go_enter Tryz.func31, Tryz.ntmps31
  go_wp2
  go_ret
  exact ⟨ret_i64 HT.out, rfl⟩
end Go.Proofs.YtofabikjjkapmaaGreat

