/-  | The laws' helpers, in one form each: for the walks that lawgen3.py prints. -/
import Derived.Test.YtbjeibcombjfgaaRows
import Derived.Test.YtbjeibcombjfgaaQf1
import Derived.Test.YtbjeibcombjfgaaQf2
import Derived.WalkLawsBesides
/- The laws' marking and holding, at lists of lists and at tableaus. -/
set_option linter.unusedVariables false
set_option linter.unusedSimpArgs false
namespace Go.Proofs.Ytbjeibcombjfgaa
open Go.RowKit

def tot (xss : List (List Int)) : Nat := xss.flatten.length
theorem tot_cons (zs : List Int) (r : List (List Int)) : tot (zs :: r) = zs.length + tot r := by simp [tot]
theorem tot_take_succ {xss : List (List Int)} {j : Nat} {zs : List Int} (h : xss[j]? = some zs) : tot (xss.take (j + 1)) = tot (xss.take j) + zs.length := by
  unfold tot
  rw [List.take_add_one, h]; simp
theorem tot_take_le (xss : List (List Int)) (j : Nat) : tot (xss.take j) ≤ tot xss := by
  unfold tot
  conv => rhs; rw [← List.take_append_drop j xss]
  rw [List.flatten_append, List.length_append]; omega
theorem len_le_tot {xss : List (List Int)} {j : Nat} {zs : List Int} (h : xss[j]? = some zs) : tot (xss.take j) + zs.length ≤ tot xss := by
  have := tot_take_le xss (j + 1)
  rw [tot_take_succ h] at this
  exact this

def markRows : Int → List (List Int) → List (List Int)
  | _, [] => []
  | k, zs :: r => marks k zs.length :: markRows (k + (zs.length : Int)) r
theorem markRows_len : ∀ (k : Int) (xss : List (List Int)), (markRows k xss).length = xss.length
  | _, [] => rfl
  | k, zs :: r => by simp [markRows, markRows_len _ r]
theorem markRows_get : ∀ (k : Int) (xss : List (List Int)) (j : Nat) (zs : List Int), xss[j]? = some zs → (markRows k xss)[j]? = some (marks (k + (tot (xss.take j) : Nat)) zs.length)
  | _, [], j, zs, h => by simp at h
  | k, ys :: r, 0, zs, h => by simp at h; subst h; simp [markRows, tot]
  | k, ys :: r, j + 1, zs, h => by
    simp only [List.getElem?_cons_succ] at h
    simp only [markRows, List.getElem?_cons_succ, List.take_succ_cons]
    rw [markRows_get _ r j zs h, tot_cons]
    congr 2
    push_cast
    omega
/-- the first j lists are marked -/
def markTo (k : Int) (xss : List (List Int)) (j : Nat) : List (List Int) := (markRows k xss).take j ++ xss.drop j
theorem markTo_zero (k : Int) (xss : List (List Int)) : markTo k xss 0 = xss := by simp [markTo]
theorem markTo_all (k : Int) (xss : List (List Int)) : markTo k xss xss.length = markRows k xss := by
  unfold markTo
  rw [List.drop_length, List.append_nil, List.take_of_length_le (by rw [markRows_len]; exact Nat.le_refl _)]
theorem markTo_get {k : Int} {xss : List (List Int)} {j : Nat} {zs : List Int} (h : xss[j]? = some zs) : (markTo k xss j)[j]? = some zs := by
  have hj := (List.getElem?_eq_some_iff.1 h).1
  unfold markTo
  rw [List.getElem?_append_right (by simp [markRows_len]; omega)]
  simp [markRows_len, Nat.min_eq_left (Nat.le_of_lt hj), h]
theorem markTo_set {k : Int} {xss : List (List Int)} {j : Nat} {zs : List Int} (h : xss[j]? = some zs) : (markTo k xss j).set j (marks (k + (tot (xss.take j) : Nat)) zs.length) = markTo k xss (j + 1) := by
  have hj := (List.getElem?_eq_some_iff.1 h).1
  have hm := markRows_get k xss j zs h
  unfold markTo
  have hl : ((markRows k xss).take j).length = j := by simp [markRows_len]; omega
  rw [List.set_append_right _ _ (by omega), hl, Nat.sub_self, List.take_add_one, hm]
  rw [List.drop_eq_getElem_cons hj]
  simp only [List.set_cons_zero, List.append_assoc, Option.toList, List.cons_append, List.nil_append]

theorem RowsOwn.set {w w' : World} {B C : Nat} {e : TypeId} {vs : List Value} {xss : List (List Int)} {j : Nat} {u : Value} {zs : List Int} (h : RowsOwn w B C e vs xss) (hu : vs[j]? = some u) (hg : w.grownBy w' u.ownBlock) (hn : OwnInts w' B e u zs) : RowsOwn w' B C e vs (xss.set j zs) := by
  obtain ⟨h1, h2, h3⟩ := h
  refine ⟨by simp [h1], fun k u' zs' hu' hz' => ?_, h3⟩
  have hj := (List.getElem?_eq_some_iff.1 hu).1
  by_cases hk : k = j
  · subst hk
    rw [hu] at hu'
    obtain rfl : u = u' := by simpa using hu'
    have hz : xss[k]? = some (xss[k]'(by omega)) := List.getElem?_eq_getElem _
    rw [List.getElem?_set_self (by omega)] at hz'
    obtain rfl : zs = zs' := by simpa using hz'
    exact ⟨hn, (h2 k u _ hu hz).2⟩
  · rw [List.getElem?_set_ne (by omega)] at hz'
    have ho := h2 k u' zs' hu' hz'
    have hap : Apart u' u := by
      by_cases hlt : k < j
      · exact h3 k j u' u hlt hu' hu
      · exact (h3 j k u u' (by omega) hu hu').symm
    exact ⟨ho.1.kept hg hap, ho.2⟩

/-- no block has turned but those of the values vs -/
def Far (vs : List Value) (w w' : World) : Prop := ∀ b, b < w.heap.size → (∀ (i : Nat) (u : Value), vs[i]? = some u → u.ownBlock ≠ some b) → w'.heap[b]? = w.heap[b]?
theorem Far.refl (vs : List Value) (w : World) : Far vs w w := fun _ _ _ => rfl
theorem Far.grown {vs : List Value} {w w1 w2 : World} {j : Nat} {u : Value} (h : Far vs w w1) (hs : w.heap.size ≤ w1.heap.size) (hu : vs[j]? = some u) (hg : w1.grownBy w2 u.ownBlock) : Far vs w w2 :=
  fun b hb hn => (hg.block b (Nat.lt_of_lt_of_le hb hs) (fun e => hn j u hu e.symm)).trans (h b hb hn)
theorem Far.kept {vs : List Value} {w w' : World} {B C : Nat} {e : TypeId} {v : Value} {zs : List Int} (h : Far vs w w') (ho : OI w B C e v zs) (ha : ∀ (i : Nat) (u : Value), vs[i]? = some u → Apart u v) : OI w' B C e v zs :=
  ⟨⟨ho.1.1.of_block fun b hb => h b (ho.1.1.lt b hb) (fun i u hu e => (ha i u hu).elim (fun h1 => by rw [h1] at e; cases e) (fun h1 => h1 (e.trans hb.symm))), ho.1.2⟩, ho.2⟩

set_option maxHeartbeats 1000000 in
theorem l_markInt64SS (w : World) (B C : Nat) (v : Value) (vs : List Value) (xss : List (List Int)) (k : Int) (ho1 : Own w B tL v vs) (ho3 : RowsOwn w B C tI vs xss) (hn : tot xss ≤ 4294967296) (h0 : 0 ≤ k) (h1 : k ≤ 4294967296) :
    Calls Try.prog 46 #[v, .int .i64 k] w fun e w' => e = .returned (.int .i64 (k + (tot xss : Nat))) ∧ Own w' B tL v vs ∧ RowsOwn w' B C tI vs (markRows k xss) ∧ Chg B C w w' ∧ Far vs w w' := by
  have hc0 := ho1.cells
  obtain ⟨A, c, rfl, l1, l2, -⟩ := hc0
  have hvl := ho3.1
  rw [hvl] at l1
  have l2' : c ≤ 9223372036854775807 := by simpa [maxLen] using l2
  have HL := Lib.hid hvl
  have HO := Lib.hid ho1
  have HR := Lib.hid ho3
  rw [hvl]
  rw [hvl] at HO
  clear ho1 ho3 hvl l2
  go_enter Try.func46, Try.ntmps46
  go_wp2_with fail
  go_loopw [1, 5] (fun x i wr => ∃ j : Nat, j ≤ xss.length ∧ i = .int .i64 j ∧ x = .int .i64 (k + (tot (xss.take j) : Nat)) ∧ Own wr B tL (.slice A xss.length c) vs ∧ RowsOwn wr B C tI vs (markTo k xss j) ∧ Chg B C w wr ∧ Far vs w wr) (fun _ i _ => xss.length - (intOf i).toNat)
  case atStart => exact ⟨0, Nat.zero_le _, rfl, by simp [tot], HO.out, by rw [markTo_zero]; exact HR.out, Chg.refl _ _ _, Far.refl _ _⟩
  case round =>
    obtain ⟨j, hj, rfl, rfl, hown, hrow, hch, hfar⟩ := hrel
    have HF := Lib.hid hfar
    clear hfar
    clear HO HR
    have HO := Lib.hid hown
    have HR := Lib.hid hrow
    have HC := Lib.hid hch
    clear hown hrow hch
    by_cases hlt : j < xss.length
    · have hu : vs[j]? = some (vs[j]'(by rw [HL.out]; exact hlt)) := List.getElem?_eq_getElem _
      have hz : xss[j]? = some (xss[j]'hlt) := List.getElem?_eq_getElem _
      generalize vs[j]'(by rw [HL.out]; exact hlt) = u at hu
      generalize xss[j]'hlt = zs at hz
      have hoi := HR.out.2.1 j u zs hu (markTo_get hz)
      obtain ⟨A', c', he, -, -, g3⟩ := HO.out.cells
      simp only [Value.slice.injEq] at he
      obtain ⟨rfl, -, rfl⟩ := he
      obtain ⟨ad, rfl, hc⟩ := g3 j u hu
      have hle := len_le_tot hz
      have HS := Lib.hid (tot_take_succ hz)
      have HSET := Lib.hid (markTo_set (k := k) hz)
      have HZ := Lib.hid hz
      have HU := Lib.hid hu
      have HOI := Lib.hid hoi
      clear hz hu hoi g3
      generalize tot (xss.take j) = m at hle HS HSET ⊢
      go_wp2_with fail
      refine (l_markInt64S _ B u zs (k + (m : Int)) HOI.out.1 (by omega) (by omega) (by omega)).mono ?_
      rintro e w1 ⟨rfl, hown1, hgr1, -⟩
      have HM := Lib.hid hown1
      have HG := Lib.hid hgr1
      clear hown1 hgr1 hc
      go_wp2_with fail
      go_roundw
      case rel =>
        have hne : (Value.slice (some ad) xss.length c).ownBlock = none ∨ (Value.slice (some ad) xss.length c).ownBlock ≠ u.ownBlock := HO.out.ne_of_type HOI.out.1.1 (by decide)
        refine ⟨j + 1, by omega, by go_num, by rw [HS.out]; push_cast; go_num, HO.out.kept HG.out hne, ?_, HC.out.trans (Chg.of_grown HG.out fun b hb => ⟨HOI.out.1.1.ge b hb, HOI.out.2 b hb⟩), HF.out.grown HC.out.size HU.out HG.out⟩
        rw [← HSET.out]
        exact HR.out.set HU.out HG.out HM.out
      case measure => simp [intOf]; omega
    · have : j = xss.length := by omega
      subst this
      go_wp2_with fail
      go_ret
      refine ⟨ret_int (by rw [List.take_length]), HO.out, ?_, HC.out, HF.out⟩
      rw [← markTo_all]
      exact HR.out

set_option maxHeartbeats 1000000 in
theorem l_heldInt64SS (w : World) (v : Value) (xss : List (List Int)) (k : Int) (ho : Rows w v (markRows k xss)) (hn : tot xss ≤ 4294967296) (h0 : 0 ≤ k) (h1 : k ≤ 4294967296) :
    Calls Try.prog 47 #[v, .int .i64 k] w fun e w' => e = .returned (.int .i64 (k + (tot xss : Nat))) ∧ w = w' := by
  obtain ⟨A, c, rfl, g1, g2, g3⟩ := ho.open_
  rw [markRows_len] at g1 g3 ⊢
  have G3 := Lib.hid g3
  clear g3 ho
  go_enter Try.func47, Try.ntmps47
  go_wp2_with fail
  go_loop [1, 5] (fun x i => ∃ j : Nat, j ≤ xss.length ∧ i = .int .i64 j ∧ x = .int .i64 (k + (tot (xss.take j) : Nat))) (fun _ i => xss.length - (intOf i).toNat)
  case atStart => exact ⟨0, Nat.zero_le _, rfl, by simp [tot]⟩
  case round =>
    obtain ⟨j, hj, rfl, rfl⟩ := hrel
    by_cases hlt : j < xss.length
    · obtain ⟨ad, u, zs', rfl, hz', hu, hc⟩ := G3.out j hlt
      have hz : xss[j]? = some (xss[j]'hlt) := List.getElem?_eq_getElem _
      generalize xss[j]'hlt = zs at hz
      rw [markRows_get k xss j zs hz] at hz'
      obtain rfl : marks (k + (tot (xss.take j) : Nat)) zs.length = zs' := by simpa using hz'
      have hle := len_le_tot hz
      have HS := Lib.hid (tot_take_succ hz)
      have HU := Lib.hid hu
      clear hz hu hz'
      generalize tot (xss.take j) = m at hle HS HU ⊢
      have hk0 : 0 ≤ k + (m : Int) + (zs.length : Int) := by omega
      go_wp2_with fail
      refine (l_heldInt64S _ u zs.length (k + (m : Int)) HU.out (by omega) (by omega) (by omega)).mono ?_
      rintro e w1 ⟨rfl, rfl⟩
      go_wp2_with fail
      go_round
      case rel => exact ⟨j + 1, by omega, by go_num, by rw [HS.out]; push_cast; go_num⟩
      case measure => simp [intOf]; omega
    · have : j = xss.length := by omega
      subst this
      go_wp2_with fail
      go_ret
      exact ⟨by first | rfl | exact ret_int (by rw [List.take_length]), rfl⟩

end Go.Proofs.Ytbjeibcombjfgaa

set_option maxRecDepth 100000
set_option linter.unusedVariables false
set_option linter.unusedSimpArgs false
namespace Go.Proofs.Ytbjeibcombjfgaa
open Go.RowKit

theorem n_to_ints (w : World) (v : Value) (zs : List Int) (ha : Ints w v zs) (hn : zs.length ≤ 4294967296) :
    Calls Try.prog 39 #[v] w fun e w' => ∃ u, e = .returned u ∧ OI w' w.heap.size w'.heap.size tI u zs ∧ Below w.heap.size w w' :=
  (l_toInt64S w v zs ha hn).mono (by rintro e w' ⟨u, rfl, h, hb⟩; exact ⟨u, rfl, OI.of h, hb⟩)
theorem n_eq_ints (w : World) (v v' : Value) (zs : List Int) (ha : Ints w v zs) (hb : Ints w v' zs) :
    Calls Try.prog 41 #[v, v'] w fun e w' => e = .returned (.bool true) ∧ Below w.heap.size w w' :=
  (l_eqInt64S w v v' zs zs ha hb).mono (by rintro e w' ⟨rfl, n, rfl⟩; exact ⟨by simp, below_drewN (Below.refl _ _) n⟩)
theorem n_eq_rows (w : World) (v v' : Value) (xss : List (List Int)) (ha : Rows w v xss) (hb : Rows w v' xss) :
    Calls Try.prog 45 #[v, v'] w fun e w' => e = .returned (.bool true) ∧ Below w.heap.size w w' :=
  (l_eqInt64SS w v v' xss xss ha hb).mono (by rintro e w' ⟨rfl, n, rfl⟩; exact ⟨by simp, below_drewN (Below.refl _ _) n⟩)
theorem n_mark_ints (w : World) (B C : Nat) (v : Value) (zs : List Int) (k : Int) (ho : OI w B C tI v zs) (hn : zs.length ≤ 1073741824) (h0 : 0 ≤ k) (h1 : k ≤ 1073741824) :
    Calls Try.prog 42 #[v, .int .i64 k] w fun e w' => e = .returned (.int .i64 (k + (zs.length : Int))) ∧ OI w' B C tI v (marks k zs.length) ∧ Chg B C w w' :=
  (l_markInt64S w B v zs k ho.1 (by omega) h0 (by omega)).mono (by rintro e w' ⟨rfl, h, hg, -⟩; exact ⟨rfl, ⟨h, ho.2⟩, Chg.of_grown hg fun b hb => ⟨ho.1.1.ge b hb, ho.2 b hb⟩⟩)
theorem n_mark_rows (w : World) (B C : Nat) (v : Value) (xss : List (List Int)) (k : Int) (ho : OR w B C tL tI v xss) (hn : tot xss ≤ 1073741824) (h0 : 0 ≤ k) (h1 : k ≤ 1073741824) :
    Calls Try.prog 46 #[v, .int .i64 k] w fun e w' => e = .returned (.int .i64 (k + (tot xss : Nat))) ∧ OR w' B C tL tI v (markRows k xss) ∧ Chg B C w w' := by
  obtain ⟨vs, h1', h2, h3⟩ := ho
  exact (l_markInt64SS w B C v vs xss k h1' h3 (by omega) h0 (by omega)).mono (by rintro e w' ⟨rfl, g1, g2, g3, -⟩; exact ⟨rfl, ⟨vs, g1, h2, g2⟩, g3⟩)
theorem n_held_ints (w : World) (v : Value) (n : Nat) (ho : Ints w v (marks 1 n)) (hn : n ≤ 1073741824) :
    Calls Try.prog 43 #[v, .int .i64 1] w fun e w' => e = .returned (.int .i64 (1 + (n : Int))) ∧ Below w.heap.size w w' :=
  (l_heldInt64S w v n 1 ho (by omega) (by omega) (by omega)).mono (by rintro e w' ⟨rfl, rfl⟩; exact ⟨rfl, Below.refl _ _⟩)
theorem n_held_rows (w : World) (v : Value) (xss : List (List Int)) (ho : Rows w v (markRows 1 xss)) (hn : tot xss ≤ 1073741824) :
    Calls Try.prog 47 #[v, .int .i64 1] w fun e w' => e = .returned (.int .i64 (1 + (tot xss : Nat))) ∧ Below w.heap.size w w' :=
  (l_heldInt64SS w v xss 1 ho (by omega) (by omega) (by omega)).mono (by rintro e w' ⟨rfl, rfl⟩; exact ⟨rfl, Below.refl _ _⟩)
end Go.Proofs.Ytbjeibcombjfgaa

