/- Walk: canonical of the program. | Walk: treeFrom of the program. | Words of memory for lists of neighbours: rows of numbers, each in a block of its own, that grow one by one. | Walk: nearOf of the program. -/
import Derived.Test.YtofabikjjkapmaaPo6
import Derived.Test.YtofabikjjkapmaaPo7
import Derived.Test.YtofabikjjkapmaaPo2
set_option maxRecDepth 100000
set_option linter.unusedVariables false
set_option linter.unusedSimpArgs false
namespace Go.Proofs.Ytofabikjjkapmaa
open Go.RowKit

/-- a row of one's own is stored in a list of rows of one's own -/
theorem RR.store {w : World} {B g n cap k : Nat} {vs : List Value} {xss : List (List Int)} {u : Value} {zs : List Int} (h : Own w B tL (.slice (some ⟨g, 0, none⟩) n cap) vs) (hr : RR w B vs xss) (hk : k < vs.length) (hu : OwnInts w B tI u zs) :
    (∃ u0, w.cell? ⟨g, k, none⟩ = some u0) ∧ w.frozen? ⟨g, k, none⟩ = false ∧ Own (w.setCell ⟨g, k, none⟩ u) B tL (.slice (some ⟨g, 0, none⟩) n cap) (vs.set k u) ∧ RR (w.setCell ⟨g, k, none⟩ u) B (vs.set k u) (xss.set k zs) := by
  obtain ⟨u0, -, hc, hf, -, -, ho, hg⟩ := h.storeAt hk u
  refine ⟨⟨u0, hc⟩, hf, ho, ?_⟩
  exact (hr.set hu).other (v := .slice (some ⟨g, 0, none⟩) n cap) hg h (by decide)

theorem put_step {cs bs : List (List Nat)} {j : Nat} {c : List Nat} (hl : cs.length = bs.length) (hj : j < bs.length) (hc : cs[j]? = some c) :
    ((cs.take j ++ bs.drop j).map up).set j (up c) = (cs.take (j + 1) ++ bs.drop (j + 1)).map up := by
  rw [← List.map_set]
  congr 1
  have e1 : (cs.take j).length = j := by rw [List.length_take]; omega
  rw [List.set_append, if_neg (by omega), e1, Nat.sub_self, List.drop_eq_getElem_cons hj, List.set_cons_zero, List.take_add_one, hc]
  simp
theorem put_at {cs bs : List (List Nat)} {j : Nat} (hl : cs.length = bs.length) (hj : j < bs.length) : (cs.take j ++ bs.drop j)[j]? = bs[j]? := by
  have e1 : (cs.take j).length = j := by rw [List.length_take]; omega
  rw [List.getElem?_append_right (by omega), e1, Nat.sub_self, List.getElem?_drop, Nat.add_zero]

set_option maxHeartbeats 8000000 in
theorem i_canonical : ∀ (f : Nat) (w : World) (v : Value) (t r : List Nat), Ints w v (up t) → canO f t = some r → t.length ≤ 1000 → (∀ l ∈ t, l ≤ 1000000) →
    Calls Try.prog 37 #[v] w fun e w' => ∃ x, e = .returned x ∧ OwnInts w' w.heap.size tI x (up r) ∧ Below w.heap.size w w' := by
  intro f
  induction f with
  | zero => intro w v t r _ h; cases h
  | succ f ih =>
    intro w v t r ha hcan hn hl
    obtain ⟨bs, cs, hb, hm, hr⟩ := canO_parts hcan
    have IH := Lib.hid ih
    have HA := Lib.hid ha
    have HB := Lib.hid hb
    have HM := Lib.hid hm
    have HR := Lib.hid hr
    have HL := Lib.hid hl
    have HLE := Lib.hid (brO_lens hb hn)
    have HLM := Lib.hid (brO_mem hb hl)
    have HCL := Lib.hid (mapO_len hm)
    have HSB := Lib.hid (show ∀ q ∈ srtD cs, q.length ≤ 1000 ∧ ∀ l ∈ q, l < 1000000 from fun q hq => by
      rcases mem_srtF hq with h | h
      · simp at h
      · obtain ⟨x, hx, hxq⟩ := mapO_all hm q h
        have h1 := canO_len hxq
        have h2 := (brO_lens hb hn).2 x hx
        exact ⟨by omega, fun l hl => by have := canO_lt hxq l hl; omega⟩)
    have HBT := Lib.hid (show brLen (srtD cs) ≤ 1000 by
      have h2 := canO_len hcan
      rw [hr, rootN, List.length_cons, bumps_len] at h2
      omega)
    have HSL := Lib.hid (show (srtD cs).length ≤ 1000 by
      have h1 := (brO_lens hb hn).1
      have h2 := mapO_len hm
      rw [srtD, len_srtF, h2]
      simpa using h1)
    have hbl : bs.length ≤ 1000 := HLE.out.1
    obtain ⟨A, c, rfl, -, -, -⟩ := ha.open_
    rw [up_len] at HA ⊢
    clear ih ha hb hm hr hl hcan
    go_enter Try.func37, Try.ntmps37
    go_wp2_with (go_at_call 63; refine (i_branchesOf _ _ t bs HA.out HB.out hn HL.out).mono ?_; rintro e w1 ⟨r1, rfl, ⟨vs0, ho1, hr1⟩, hb1⟩; obtain ⟨A1, c1, he1, -, -⟩ := ho1.cells.open_; have HL0 := Lib.hid (show vs0.length = bs.length by rw [hr1.1, List.length_map]); rw [HL0.out] at he1; subst he1; have HO0 := Lib.hid ho1; have HR0 := Lib.hid hr1; have HB0 := Lib.hid hb1; clear ho1 hr1 hb1)
    go_loopw [10] (fun i wr => ∃ (j : Nat) (vs : List Value), j ≤ bs.length ∧ i = .int .i64 j ∧ Hid (vs.length = bs.length) ∧ Own wr w.heap.size tL (.slice A1 bs.length c1) vs ∧ RR wr w.heap.size vs ((cs.take j ++ bs.drop j).map up) ∧ Below w.heap.size w wr) (fun i _ => bs.length - (intOf i).toNat)
    case atStart => exact ⟨0, vs0, Nat.zero_le _, rfl, HL0, HO0.out, by simpa using HR0.out, HB0.out⟩
    case round =>
      obtain ⟨j, vs, hj, rfl, HVL, hown, hrr, hbw⟩ := hrel
      clear HL0 HO0 HR0 HB0
      have HO := Lib.hid hown
      have HRR := Lib.hid hrr
      have HBW := Lib.hid hbw
      by_cases hlt : j < bs.length
      · rcases hown.cases with ⟨he, hv⟩ | ⟨g, cap, cur, he, hBg, hgs, -⟩
        · have := HVL.out; rw [hv] at this; simp at this; omega
        · simp only [Value.slice.injEq] at he
          obtain ⟨rfl, -, rfl⟩ := he
          have hjv : j < vs.length := by rw [HVL.out]; exact hlt
          have hu' : vs[j]? = some (vs[j]'hjv) := List.getElem?_eq_getElem _
          have hbj : bs[j]? = some (bs[j]'hlt) := List.getElem?_eq_getElem _
          obtain ⟨cj, hcj, hcan⟩ := mapO_get HM.out j _ hbj
          have hi := hrr.2 j _ _ hu' (by rw [List.getElem?_map, put_at HCL.out hlt, hbj]; rfl)
          obtain ⟨Au, cu, hue, -, -, -⟩ := hi.ints.open_
          rw [up_len] at hue
          obtain ⟨u0, hu0, q0, -⟩ := hown.storeAt hjv (.slice none 0 0)
          have hc : wr.cell? ⟨g, j, none⟩ = some (.slice Au (bs[j]'hlt).length cu) := by rw [q0, ← hue, ← hu0, hu']
          have HU := Lib.hid (show Ints wr (.slice Au (bs[j]'hlt).length cu) (up (bs[j]'hlt)) by rw [← hue]; exact hi.ints)
          have HCAN := Lib.hid hcan
          have HBJ1 := Lib.hid (HLE.out.2 _ (List.mem_of_getElem? hbj))
          have HBJ2 := Lib.hid (HLM.out _ (List.mem_of_getElem? hbj))
          have HPS := Lib.hid (put_step HCL.out hlt hcj)
          have HJV := Lib.hid hjv
          have hji : (j : Int) < (bs.length : Int) := by omega
          generalize bs[j]'hlt = bj at HU HCAN HBJ1 HBJ2 hc
          have HGB := Lib.hid hBg
          clear hu' hbj hcj hcan hi hue hu0 q0 hown hrr hbw hjv hBg
          go_wp2_with (go_at_call 37; refine (IH.out _ _ _ _ HU.out HCAN.out HBJ1.out HBJ2.out).mono ?_; rintro e w2 ⟨r2, rfl, ho2, hb2⟩; obtain ⟨A5, c5, he5, -, -, -⟩ := ho2.ints.open_; rw [up_len] at he5; subst he5; obtain ⟨⟨u0, q1⟩, q2, ho3, hr3⟩ := RR.store (k := j) (HO.out.below hb2) (HRR.out.below hb2) HJV.out (ho2.mono HBW.out.size); have HO3 := Lib.hid ho3; have HR3 := Lib.hid hr3; have HB2 := Lib.hid (HBW.out.trans (hb2.mono HBW.out.size)); have hgs2 : g < w2.heap.size := Nat.lt_of_lt_of_le hgs hb2.size; clear ho2 hb2 ho3 hr3)
          go_roundw
          case rel =>
            refine ⟨j + 1, vs.set j (.slice A5 cj.length c5), by omega, by go_num, by simp only [Hid, List.length_set]; exact HVL.out, HO3.out, ?_, HB2.out.setCell (p := ⟨g, j, none⟩) HGB.out _⟩
            rw [← HPS.out]
            exact HR3.out
          case measure => simp [intOf]; omega
      · have : j = bs.length := by omega
        subst this
        have HRR2 := Lib.hid (show RR wr w.heap.size vs (cs.map up) by
          have h := hrr
          rw [List.drop_length, List.append_nil, ← HCL.out, List.take_length] at h
          exact h)
        have HV1 := Lib.hid (show vs.length ≤ 1000 by rw [HVL.out]; exact hbl)
        clear hown hrr hbw HRR
        go_wp2_with (first
          | (go_at_call 64; have hS := lib_SortDesc wr w.heap.size c1 A1 vs cs (by rw [HVL.out]; exact HO.out) HRR2.out HV1.out; rw [HVL.out] at hS; refine hS.mono ?_; clear hS; rintro e w3 ⟨rfl, vs', hl', ho', hr', hg'⟩; have HROW := Lib.hid (hr'.rows ho'); have HB3 := Lib.hid (HBW.out.grown hg' HBW.out.size HO.out.ge); clear ho' hr' hg' hl')
          | (go_at_call 67; refine (i_rootOn _ _ (srtD cs) HROW.out HSB.out HBT.out HSL.out).mono ?_; rintro e w4 ⟨x, rfl, hx, hb4⟩; have HX := Lib.hid hx; have HB4 := Lib.hid hb4; clear hx hb4))
        go_ret
        exact ⟨_, rfl, by rw [HR.out]; exact HX.out.mono HB3.out.size, HB3.out.trans (HB4.out.mono HB3.out.size)⟩
end Go.Proofs.Ytofabikjjkapmaa

set_option maxRecDepth 100000
set_option linter.unusedVariables false
set_option linter.unusedSimpArgs false
namespace Go.Proofs.Ytofabikjjkapmaa
open Go.RowKit

theorem filter_at {α : Type} (p : α → Bool) {ns : List α} {j : Nat} {x : α} (hx : ns[j]? = some x) :
    (p x = true → (ns.filter p)[((ns.take j).filter p).length]? = some x ∧ ((ns.take (j + 1)).filter p).length = ((ns.take j).filter p).length + 1) ∧
    (p x = false → ((ns.take (j + 1)).filter p).length = ((ns.take j).filter p).length) := by
  have e : ns.take (j + 1) = ns.take j ++ [x] := by rw [List.take_add_one, hx]; rfl
  refine ⟨fun h => ⟨?_, ?_⟩, fun h => ?_⟩
  · have h2 : ns.filter p = (ns.take j).filter p ++ x :: (ns.drop (j + 1)).filter p := by
      have h3 := congrArg (List.filter p) (List.take_append_drop (j + 1) ns)
      rw [List.filter_append, e, List.filter_append] at h3
      rw [← h3]
      simp [h]
    rw [h2, List.getElem?_append_right (Nat.le_refl _), Nat.sub_self]
    rfl
  · rw [e, List.filter_append]; simp [h]
  · rw [e, List.filter_append]; simp [h]
theorem tfO_parts {f : Nat} {near : List (List Nat)} {root fr : Nat} {r : List Nat} (h : tfO (f + 1) near root fr = some r) :
    ∃ ns bs, near[root]? = some ns ∧ mapO (fun n => tfO f near n (root + 1)) (ns.filter fun n => !Nat.beq (n + 1) fr) = some bs ∧ canO 9 (rootN bs) = some r := by
  rw [tfO] at h
  split at h
  · cases h
  · rename_i ns hns
    split at h
    · cases h
    · rename_i bs hbs
      exact ⟨ns, bs, hns, hbs, h⟩
theorem tfO_can {f : Nat} {near : List (List Nat)} {root fr : Nat} {r : List Nat} (h : tfO f near root fr = some r) : 0 < r.length ∧ ∀ l ∈ r, l < r.length := by
  cases f with
  | zero => cases h
  | succ f =>
    obtain ⟨ns, bs, -, -, h⟩ := tfO_parts h
    refine ⟨?_, canO_lt h⟩
    rw [canO_len h, rootN]
    simp
theorem len_le_brLen : ∀ {bs : List (List Nat)}, (∀ b ∈ bs, 0 < b.length) → bs.length ≤ brLen bs
  | [], _ => Nat.le_refl _
  | b :: bs, h => by
    have := len_le_brLen (bs := bs) fun x hx => h x (by simp [hx])
    have := h b (by simp)
    simp [brLen]
    omega
/-- the sizes of the branches of a tree made so -/
theorem tfO_sizes {f : Nat} {near : List (List Nat)} {root : Nat} {xs : List Nat} {bs : List (List Nat)} {r : List Nat} (hm : mapO (fun n => tfO f near n (root + 1)) xs = some bs) (hc : canO 9 (rootN bs) = some r) (hr : r.length ≤ 1000) :
    (∀ q ∈ bs, q.length ≤ 1000 ∧ ∀ l ∈ q, l < 1000000) ∧ brLen bs ≤ 999 ∧ bs.length ≤ 1000 := by
  have h1 := canO_len hc
  rw [rootN, List.length_cons, bumps_len] at h1
  refine ⟨fun q hq => ?_, by omega, ?_⟩
  · obtain ⟨x, -, hx⟩ := mapO_all hm q hq
    have h2 := brLen_memb hq
    exact ⟨by omega, fun l hl => by have := (tfO_can hx).2 l hl; omega⟩
  · have := len_le_brLen (bs := bs) fun b hb => by obtain ⟨x, -, hx⟩ := mapO_all hm b hb; exact (tfO_can hx).1
    omega

set_option maxHeartbeats 4000000 in
theorem i_treeFrom : ∀ (f : Nat) (w : World) (v : Value) (near : List (List Nat)) (root fr : Nat) (r : List Nat), Rows w v (near.map up) → tfO f near root fr = some r → r.length ≤ 1000 → near.length ≤ 1000 → root < near.length → fr ≤ 1000 → (∀ ns ∈ near, ∀ n ∈ ns, n < near.length) →
    Calls Try.prog 84 #[v, .int .i64 root, .int .i64 ((fr : Int) - 1)] w fun e w' => ∃ x, e = .returned x ∧ OwnInts w' w.heap.size tI x (up r) ∧ Below w.heap.size w w' := by
  intro f
  induction f with
  | zero => intro w v near root fr r _ h; cases h
  | succ f ih =>
    intro w v near root fr r ha htf hr hnl hroot hfr hnn
    obtain ⟨ns, bs, hns, hm, hcan⟩ := tfO_parts htf
    have IH := Lib.hid ih
    have HA := Lib.hid ha
    have HM := Lib.hid hm
    have HC := Lib.hid hcan
    have HNN := Lib.hid hnn
    have HSZ := Lib.hid (tfO_sizes hm hcan hr)
    have hnl0 := hnl
    have HRL := Lib.hid (show (rootN bs).length ≤ 1000 by rw [← canO_len hcan]; exact hr)
    obtain ⟨A, c, rfl, l1, l2, h3⟩ := ha.open_
    rw [List.length_map] at l1 h3 HA ⊢
    obtain ⟨ad, u, zs, rfl, hz, hu, hc0⟩ := h3 root hroot
    have hzs : zs = up ns := by rw [List.getElem?_map, hns] at hz; injection hz with hz; exact hz.symm
    subst hzs
    obtain ⟨An, cn, hun, m1, m2, hN⟩ := hu.open_
    rw [up_len] at hun m1 hN
    subst hun
    have HN := Lib.hid hN
    have HNB := Lib.hid (hnn ns (List.mem_of_getElem? hns))
    have hri : (root : Int) < (near.length : Int) := by omega
    have hr0 : (0 : Int) ≤ (root : Int) := by omega
    have OL := Lib.hid (show LL (w.alloc (.cells #[] tL)) w.heap.size (.slice (some ⟨w.heap.size, 0, none⟩) 0 0) [] from ⟨[], own_lit w tL [] (by simp [maxLen]), RR.nil _ _⟩)
    have hca : ∀ o, (w.alloc o).cell? (ad.add root) = some (.slice An ns.length cn) := fun o => by rw [(below1 w o).cell (by rw [block_add]; have := World.block_lt_of_cell? w _ hc0; rwa [block_add] at this)]; exact hc0
    clear ih ha htf hm hcan hz hu hc0 h3 hN hnn hns
    go_enter Try.func84, Try.ntmps84
    go_wp2_with fail
    have HLV := Lib.hid (show ∀ l ∈ rootN bs, l ≤ 1000000 from fun l hl => by
      rw [rootN] at hl
      rcases List.mem_cons.1 hl with rfl | hl
      · omega
      · obtain ⟨b, hb, l', hl', rfl⟩ := bumps_mem hl
        have h1 := (HSZ.out.1 b hb).2 l' hl'
        omega)
    have HML := Lib.hid (show (ns.filter fun n => !Nat.beq (n + 1) fr).length = bs.length from (mapO_len HM.out).symm)
    go_loopw [7, 16] (fun o x wr => ∃ (j : Nat) (vs : List Value), j ≤ ns.length ∧ x = .int .i64 j ∧ Own wr w.heap.size tL o vs ∧ RR wr w.heap.size vs ((bs.take ((ns.take j).filter fun n => !Nat.beq (n + 1) fr).length).map up) ∧ Below w.heap.size w wr) (fun _ x _ => ns.length - (intOf x).toNat)
    case atStart =>
      obtain ⟨vs, h1, h2⟩ := OL.out
      exact ⟨0, vs, Nat.zero_le _, rfl, h1, by simpa using h2, below1 _ _⟩
    case round =>
      obtain ⟨j, vs, hj, rfl, hown, hrr, hbw⟩ := hrel
      clear OL hca
      have HO := Lib.hid hown
      have HRR := Lib.hid hrr
      have HBW := Lib.hid hbw
      by_cases hlt : j < ns.length
      · obtain ⟨an, z, rfl, hz, -, hcz0⟩ := HN.out j hlt
        obtain ⟨n, hn, hzn⟩ := up_getD hz
        have hc : wr.cell? (an.add j) = some (.int .i64 z) := by
          rw [hbw.cell (by rw [block_add]; have := World.block_lt_of_cell? w _ hcz0; rwa [block_add] at this)]; exact hcz0
        obtain ⟨F1, F2⟩ := filter_at (fun n => !Nat.beq (n + 1) fr) hn
        have hnl := HNB.out n (List.mem_of_getElem? hn)
        have hvl : vs.length ≤ 1000 := by
          have h1 := hrr.1
          have h2 := HSZ.out.2.2
          rw [List.length_map, List.length_take] at h1
          omega
        have hji : (j : Int) < (ns.length : Int) := by omega
        generalize ((ns.take j).filter fun n => !Nat.beq (n + 1) fr).length = K at HRR F1 F2 hrr
        by_cases hq : n + 1 = fr
        · have hd : (z != (fr : Int) - 1) = false := by rw [hzn]; simp; omega
          have HK := Lib.hid (F2 (by simp [hq]))
          clear hown hrr hbw hz hn hzn hcz0 F1 F2 hq
          go_wp2_with fail
          go_roundw
          case rel => exact ⟨j + 1, vs, by omega, by go_num, HO.out, by rw [HK.out]; exact HRR.out, HBW.out⟩
          case measure => simp [intOf]; omega
        · have hd : (z != (fr : Int) - 1) = true := by rw [hzn]; simp; omega
          have hpn : (!Nat.beq (n + 1) fr) = true := by
            cases hb : Nat.beq (n + 1) fr with
            | true => exact absurd (Nat.eq_of_beq_eq_true hb) hq
            | false => rfl
          obtain ⟨hat, hK⟩ := F1 hpn
          obtain ⟨b, hb, htb⟩ := mapO_get HM.out K n hat
          have HK := Lib.hid hK
          have HBT := Lib.hid (show bs.take (K + 1) = bs.take K ++ [b] by rw [List.take_add_one, hb]; rfl)
          have hI := IH.out wr _ near n (root + 1) b (HA.out.below hbw) htb (HSZ.out.1 b (List.mem_of_getElem? hb)).1 hnl0 hnl (by omega) HNN.out
          rw [show (((root + 1 : Nat) : Int) - 1) = (root : Int) by omega, ← hzn] at hI
          have HI := Lib.hid hI
          clear hown hrr hbw hz hn hzn hcz0 F1 F2 hq hI hat hK hb htb hpn
          go_wp2_with (first
            | (go_at_call 84; refine HI.out.mono ?_; rintro e w2 ⟨r2, rfl, ho2, hb2⟩; obtain ⟨A5, c5, he5, -, -, -⟩ := ho2.ints.open_; rw [up_len] at he5; subst he5; have HO2 := Lib.hid (ho2.mono HBW.out.size); have HBI := Lib.hid hb2; have HB2 := Lib.hid (HBW.out.trans (hb2.mono HBW.out.size)); have HOW := Lib.hid (HO.out.below hb2); clear ho2 hb2)
            | (at_builtin; refine wpList_app1 T_row HOW.out (by omega) HB2.out.size (by rfl) rfl (by rfl) (by rfl) (by rfl) ?_; intro v1 w5 hown1 hgr1; have HN1 := Lib.hid hown1; have HGR := Lib.hid hgr1.1; have HB5 := Lib.hid (hgr1.below HB2.out HB2.out.size HOW.out.ge); clear hown1 hgr1))
          go_roundw
          case rel =>
            refine ⟨j + 1, _, by omega, by go_num, HN1.out, ?_, HB5.out⟩
            rw [HK.out, HBT.out, List.map_append]
            exact LL.snoc HOW.out (HRR.out.below HBI.out) HO2.out HN1.out HGR.out
          case measure => simp [intOf]; omega
      · have : j = ns.length := by omega
        subst this
        rw [List.take_length, HML.out, List.take_length] at HRR
        have HROW := Lib.hid (HRR.out.rows HO.out)
        obtain ⟨A2, c2, rfl, -, -⟩ := hown.cells.open_
        clear hown hrr hbw
        go_wp2_with (first
          | (go_at_call 67; refine (i_rootOn _ _ bs HROW.out HSZ.out.1 (by have := HSZ.out.2.1; omega) HSZ.out.2.2).mono ?_; rintro e w4 ⟨x, rfl, hx, hb4⟩; obtain ⟨A5, c5, he5, -, -, -⟩ := hx.ints.open_; rw [up_len] at he5; subst he5; have HX := Lib.hid hx; have HB4 := Lib.hid (HBW.out.trans (hb4.mono HBW.out.size)); clear hx hb4)
          | (go_at_call 37; refine (i_canonical 9 _ _ _ r HX.out.ints HC.out HRL.out HLV.out).mono ?_; rintro e w6 ⟨x6, rfl, hx6, hb6⟩; have HX6 := Lib.hid hx6; have HB6 := Lib.hid hb6; clear hx6 hb6))
        go_ret
        exact ⟨_, rfl, HX6.out.mono HB4.out.size, HB4.out.trans (HB6.out.mono HB4.out.size)⟩
end Go.Proofs.Ytofabikjjkapmaa

set_option maxRecDepth 100000
set_option linter.unusedVariables false
set_option linter.unusedSimpArgs false
namespace Go.Proofs.Ytofabikjjkapmaa
open Go.RowKit

abbrev tNL : TypeId := 89
theorem T_nrow : ElemT Try.prog 91 89 (.slice none 0 0) 24 := ⟨Try.underlying91, by kernel_rfl, rfl, by omega⟩

theorem addAt_set {x : Nat} : ∀ {bs : List (List Nat)} {i : Nat} {b : List Nat}, bs[i]? = some b → addAt x i bs = bs.set i (b ++ [x])
  | [], i, b, h => by simp at h
  | c :: bs, 0, b, h => by simp at h; subst h; rfl
  | c :: bs, i + 1, b, h => by rw [addAt, addAt_set (bs := bs) (by simpa using h)]; rfl
theorem addAt_ne (x : Nat) : ∀ {i k : Nat} (bs : List (List Nat)), i ≠ k → (addAt x k bs)[i]? = bs[i]?
  | i, k, [], _ => by cases k <;> rfl
  | 0, 0, b :: bs, h => absurd rfl h
  | 0, k + 1, b :: bs, h => by rw [addAt]; rfl
  | i + 1, 0, b :: bs, h => by rw [addAt]; simp
  | i + 1, k + 1, b :: bs, h => by rw [addAt]; simpa using addAt_ne x bs (show i ≠ k by omega)
theorem addAt_comm {x y : Nat} : ∀ {i k : Nat} {bs : List (List Nat)}, i ≠ k → addAt x i (addAt y k bs) = addAt y k (addAt x i bs)
  | i, k, [], _ => by cases i <;> cases k <;> rfl
  | 0, 0, b :: bs, h => absurd rfl h
  | 0, k + 1, b :: bs, h => rfl
  | i + 1, 0, b :: bs, h => rfl
  | i + 1, k + 1, b :: bs, h => by rw [addAt, addAt, addAt, addAt, addAt_comm (show i ≠ k by omega)]
theorem addAt_len (x : Nat) : ∀ (i : Nat) (bs : List (List Nat)), (addAt x i bs).length = bs.length
  | _, [] => by cases ‹Nat› <;> rfl
  | 0, b :: bs => rfl
  | i + 1, b :: bs => by rw [addAt, List.length_cons, addAt_len x i bs, List.length_cons]
theorem mem_addAt {x : Nat} {ns : List Nat} : ∀ {i : Nat} {bs : List (List Nat)}, ns ∈ addAt x i bs → ns ∈ bs ∨ ∃ b ∈ bs, ns = b ++ [x]
  | _, [], h => by cases ‹Nat› <;> simp [addAt] at h
  | 0, b :: bs, h => by
    rw [addAt] at h
    rcases List.mem_cons.1 h with h | h
    · exact .inr ⟨b, by simp, h⟩
    · exact .inl (by simp [h])
  | i + 1, b :: bs, h => by
    rw [addAt] at h
    rcases List.mem_cons.1 h with h | h
    · exact .inl (by simp [h])
    · rcases mem_addAt h with h | ⟨c, hc, h⟩
      · exact .inl (by simp [h])
      · exact .inr ⟨c, by simp [hc], h⟩

/-- lists of numbers of one's own, no two of them in one block -/
structure Fam (w : World) (B : Nat) (e : TypeId) (us : List Value) (xss : List (List Int)) : Prop where
  len : us.length = xss.length
  row : ∀ (k : Nat) (u : Value) (zs : List Int), us[k]? = some u → xss[k]? = some zs → OwnInts w B e u zs
  apart : ∀ (i j : Nat) (u u' : Value), i ≠ j → us[i]? = some u → us[j]? = some u' → Apart u u'
section
variable {w w' w1 : World} {B k : Nat} {e e' : TypeId} {us : List Value} {xss : List (List Int)} {u u1 : Value} {zs zs1 : List Int}
theorem Fam.nil (w : World) (B : Nat) (e : TypeId) : Fam w B e [] [] := ⟨rfl, fun k u zs h => by simp at h, fun i j u u' _ h => by simp at h⟩
theorem Fam.below (h : Fam w B e us xss) (hb : Below w.heap.size w w') : Fam w' B e us xss := ⟨h.len, fun k u zs hu hz => (h.row k u zs hu hz).below hb, h.apart⟩
theorem Fam.mono {B' : Nat} (h : Fam w B e us xss) (hB : B' ≤ B) : Fam w B' e us xss := ⟨h.len, fun k u zs hu hz => (h.row k u zs hu hz).mono hB, h.apart⟩
/-- a block whose elements have another type has turned -/
theorem Fam.other {v : Value} {B' : Nat} {cs : List Value} (h : Fam w B e us xss) (hg : w.grownBy w' v.ownBlock) (ho : Own w B' e' v cs) (hne : e ≠ e') : Fam w' B e us xss :=
  ⟨h.len, fun k u zs hu hz => (h.row k u zs hu hz).kept hg ((h.row k u zs hu hz).1.ne_of_type ho hne), h.apart⟩
/-- one of the lists has turned or grown -/
theorem Fam.step (h : Fam w B e us xss) (hu : us[k]? = some u) (ho : OwnInts w1 B e u1 zs1) (hgr : Grow w w1 u u1) : Fam w1 B e (us.set k u1) (xss.set k zs1) := by
  have hk : k < us.length := (List.getElem?_eq_some_iff.1 hu).1
  have hap : ∀ (j : Nat) (u' : Value), k ≠ j → us[j]? = some u' → Apart u' u1 := by
    intro j u' hkj hj
    have h1 := h.apart j k u' u (Ne.symm hkj) hj hu
    have hz' : xss[j]? = some (xss[j]'(by rw [← h.len]; exact (List.getElem?_eq_some_iff.1 hj).1)) := List.getElem?_eq_getElem _
    have h2 := (h.row j u' _ hj hz').1.lt
    rcases hgr.2 with h3 | ⟨b, h3, h4⟩
    · rcases h1 with h1 | h1
      · exact .inl h1
      · exact .inr (by rw [h3]; exact h1)
    · cases hb : u'.ownBlock with
      | none => exact .inl hb
      | some b' => exact .inr (by rw [h3]; intro e; rw [hb] at e; injection e with e; have := h2 b' hb; omega)
  refine ⟨by simp [h.len], fun j u' ns' hj hj' => ?_, fun i j a b hij ha hb => ?_⟩
  · rw [List.getElem?_set] at hj hj'
    by_cases hkj : k = j
    · subst hkj
      rw [if_pos rfl, if_pos hk] at hj
      rw [if_pos rfl, if_pos (by rw [← h.len]; exact hk)] at hj'
      injection hj with hj; injection hj' with hj'
      subst hj; subst hj'
      exact ho
    · rw [if_neg hkj] at hj hj'
      exact (h.row j u' ns' hj hj').kept hgr.1 (h.apart j k u' u (Ne.symm hkj) hj hu)
  · rw [List.getElem?_set] at ha hb
    by_cases hki : k = i
    · subst hki
      rw [if_pos rfl, if_pos hk] at ha
      rw [if_neg hij] at hb
      injection ha with ha
      subst ha
      exact (hap j b hij hb).symm
    · rw [if_neg hki] at ha
      by_cases hkj : k = j
      · subst hkj
        rw [if_pos rfl, if_pos hk] at hb
        injection hb with hb
        subst hb
        exact hap i a hki ha
      · rw [if_neg hkj] at hb
        exact h.apart i j a b hij ha hb
/-- one list more, apart from all -/
theorem Fam.snoc (h : Fam w B e us xss) (ho : OwnInts w B e u zs) (hap : ∀ (j : Nat) (u' : Value), us[j]? = some u' → Apart u' u) : Fam w B e (us ++ [u]) (xss ++ [zs]) := by
  refine ⟨by simp [h.len], fun j u' ns' hj hj' => ?_, fun i j a b hij ha hb => ?_⟩
  · by_cases hlt : j < us.length
    · rw [List.getElem?_append_left hlt] at hj
      rw [List.getElem?_append_left (by rw [← h.len]; exact hlt)] at hj'
      exact h.row j u' ns' hj hj'
    · have hjl := (List.getElem?_eq_some_iff.1 hj).1
      simp at hjl
      have : j = us.length := by omega
      subst this
      rw [List.getElem?_append_right (Nat.le_refl _)] at hj
      rw [List.getElem?_append_right (by rw [h.len]; exact Nat.le_refl _), h.len] at hj'
      simp at hj hj'
      subst hj; subst hj'
      exact ho
  · have hx : ∀ (m : Nat) (c : Value), (us ++ [u])[m]? = some c → (m < us.length ∧ us[m]? = some c) ∨ (m = us.length ∧ c = u) := by
      intro m c hm
      by_cases hlt : m < us.length
      · rw [List.getElem?_append_left hlt] at hm; exact .inl ⟨hlt, hm⟩
      · have hml := (List.getElem?_eq_some_iff.1 hm).1
        simp at hml
        have : m = us.length := by omega
        subst this
        rw [List.getElem?_append_right (Nat.le_refl _)] at hm
        simp at hm
        exact .inr ⟨rfl, hm.symm⟩
    rcases hx i a ha with ⟨h1, h2⟩ | ⟨h1, h2⟩ <;> rcases hx j b hb with ⟨h3, h4⟩ | ⟨h3, h4⟩
    · exact h.apart i j a b hij h2 h4
    · subst h4; exact hap i a h2
    · subst h2; exact (hap j b h4).symm
    · omega
/-- a list that has just been made is apart from all -/
theorem Fam.fresh (h : Fam w B e us xss) (hge : ∀ b, u.ownBlock = some b → w.heap.size ≤ b) : ∀ (j : Nat) (u' : Value), us[j]? = some u' → Apart u' u := by
  intro j u' hj
  have hz' : xss[j]? = some (xss[j]'(by rw [← h.len]; exact (List.getElem?_eq_some_iff.1 hj).1)) := List.getElem?_eq_getElem _
  exact apart_of_lt (h.row j u' _ hj hz').1.lt hge
theorem Fam.nils (w : World) (B : Nat) (e : TypeId) (n : Nat) : Fam w B e (List.replicate n (.slice none 0 0)) (List.replicate n []) := by
  refine ⟨by simp, fun k u zs hu hz => ?_, fun i j u u' _ hu _ => ?_⟩
  · rw [List.getElem?_replicate] at hu hz
    split at hu
    · rw [if_pos (by assumption)] at hz
      injection hu with hu; injection hz with hz
      subst hu; subst hz
      exact OwnInts.nil _ _ _
    · cases hu
  · rw [List.getElem?_replicate] at hu
    split at hu
    · injection hu with hu; subst hu; exact .inl rfl
    · cases hu
end

/-- rows of neighbours: n rows, row k at vs k, in the block g; and other lists es, apart from all rows -/
structure NW (w : World) (B g n : Nat) (vs : List Value) (nss : List (List Nat)) (es : List Value) (ess : List (List Int)) : Prop where
  own : Own w B tNL (.slice (some ⟨g, 0, none⟩) n n) vs
  len : vs.length = n
  len' : nss.length = n
  fam : Fam w B tN (vs ++ es) (nss.map up ++ ess)

section
variable {w w' w1 : World} {B g n k x : Nat} {vs es : List Value} {nss : List (List Nat)} {ess : List (List Int)} {u u1 : Value} {ns : List Nat} {zs zs1 : List Int}
theorem NW.below (h : NW w B g n vs nss es ess) (hb : Below w.heap.size w w') : NW w' B g n vs nss es ess := ⟨h.own.below hb, h.len, h.len', h.fam.below hb⟩
theorem NW.drewN (h : NW w B g n vs nss es ess) (m : Nat) : NW (w.drewN m) B g n vs nss es ess := h.below (below_drewN (Below.refl _ _) m)
theorem NW.mono {B' : Nat} (h : NW w B g n vs nss es ess) (hB : B' ≤ B) : NW w B' g n vs nss es ess := ⟨h.own.mono hB, h.len, h.len', h.fam.mono hB⟩
theorem NW.made (h : Own w B tNL (.slice (some ⟨g, 0, none⟩) n n) (List.replicate n (.slice none 0 0))) : NW w B g n (List.replicate n (.slice none 0 0)) (List.replicate n []) [] [] := by
  refine ⟨h, by simp, by simp, ?_⟩
  have := Fam.nils w B tN n
  simpa [List.map_replicate, up] using this
theorem NW.get (h : NW w B g n vs nss es ess) (hk : k < n) : ∃ A m c ns, vs[k]? = some (.slice A m c) ∧ m = ns.length ∧ nss[k]? = some ns ∧ w.cell? ⟨g, k, none⟩ = some (.slice A m c) ∧ OwnInts w B tN (.slice A m c) (up ns) := by
  have hu : vs[k]? = some (vs[k]'(by rw [h.len]; exact hk)) := List.getElem?_eq_getElem _
  have hz : nss[k]? = some (nss[k]'(by rw [h.len']; exact hk)) := List.getElem?_eq_getElem _
  have ho := h.fam.row k _ (up (nss[k]'(by rw [h.len']; exact hk))) (by rw [List.getElem?_append_left (by rw [h.len]; exact hk)]; exact hu) (by rw [List.getElem?_append_left (by rw [List.length_map, h.len']; exact hk), List.getElem?_map, hz]; rfl)
  obtain ⟨ad, n', c', he, hc⟩ := h.own.cells.at_ hu
  simp only [Value.slice.injEq, Option.some.injEq] at he
  obtain ⟨rfl, -, -⟩ := he
  have e : (⟨g, 0, none⟩ : Addr).add k = ⟨g, k, none⟩ := by
    by_cases h0 : k = 0 <;> simp [Addr.add, h0]
  rw [e] at hc
  obtain ⟨A, c, hv, -, -⟩ := ho.1.cells.open_
  rw [ints_len, up_len] at hv
  exact ⟨A, _, c, _, by rw [hu, hv], rfl, hz, by rw [hc, hv], by rw [← hv]; exact ho⟩
theorem NW.rows (h : NW w B g n vs nss es ess) : Rows w (.slice (some ⟨g, 0, none⟩) n n) (nss.map up) := by
  refine ⟨vs, h.own.cells, by rw [List.length_map, h.len, h.len'], fun k u zs hu hz => ?_⟩
  refine (h.fam.row k u zs ?_ ?_).ints
  · rw [List.getElem?_append_left (List.getElem?_eq_some_iff.1 hu).1]; exact hu
  · rw [List.getElem?_append_left (List.getElem?_eq_some_iff.1 hz).1]; exact hz
/-- row k has grown by append: the world between, ahead of the store -/
theorem NW.grown (h : NW w B g n vs nss es ess) (hu : vs[k]? = some u) (hz : nss[k]? = some ns) (ho : Own w1 B tN u1 (ints (up ns) ++ [.int .i64 (x : Int)])) (hx : x ≤ 1000000) (hgr : Grow w w1 u u1) :
    Own w1 B tNL (.slice (some ⟨g, 0, none⟩) n n) vs ∧ Fam w1 B tN (vs.set k u1 ++ es) ((addAt x k nss).map up ++ ess) := by
  have hk : k < vs.length := (List.getElem?_eq_some_iff.1 hu).1
  have hkn : k < nss.length := (List.getElem?_eq_some_iff.1 hz).1
  have hr := h.fam.row k u (up ns) (by rw [List.getElem?_append_left hk]; exact hu) (by rw [List.getElem?_append_left (by rw [List.length_map]; exact hkn), List.getElem?_map, hz]; rfl)
  have how : Own w1 B tNL (.slice (some ⟨g, 0, none⟩) n n) vs := h.own.kept hgr.1 (h.own.ne_of_type hr.1 (by decide))
  have hnew : OwnInts w1 B tN u1 (up (ns ++ [x])) := by
    refine ⟨by rw [up_append]; simpa [ints, up] using ho, fun z hz => ?_⟩
    rw [up_append] at hz
    rcases List.mem_append.1 hz with hz | hz
    · exact hr.2 z hz
    · simp [up] at hz; subst hz; unfold In64; omega
  refine ⟨how, ?_⟩
  have hf := h.fam.step (k := k) (by rw [List.getElem?_append_left hk]; exact hu) hnew hgr
  rw [List.set_append, if_pos hk, List.set_append, if_pos (by rw [List.length_map]; exact hkn)] at hf
  rw [addAt_set hz, List.map_set]
  exact hf
/-- row k has grown by append: what its store wants, and what is there behind it -/
theorem NW.grow (h : NW w B g n vs nss es ess) (hu : vs[k]? = some u) (hz : nss[k]? = some ns) (ho : Own w1 B tN u1 (ints (up ns) ++ [.int .i64 (x : Int)])) (hx : x ≤ 1000000) (hgr : Grow w w1 u u1) :
    (∃ u0, w1.cell? ⟨g, k, none⟩ = some u0) ∧ w1.frozen? ⟨g, k, none⟩ = false ∧ NW (w1.setCell ⟨g, k, none⟩ u1) B g n (vs.set k u1) (addAt x k nss) es ess := by
  obtain ⟨how, hf⟩ := h.grown hu hz ho hx hgr
  obtain ⟨u0, -, hc, hfr, -, -, hown, hg2⟩ := how.storeAt (List.getElem?_eq_some_iff.1 hu).1 u1
  exact ⟨⟨u0, hc⟩, hfr, hown, by simp [h.len], by rw [addAt_len]; exact h.len', hf.other (v := .slice (some ⟨g, 0, none⟩) n n) hg2 how (by decide)⟩
theorem NW.ge (h : NW w B g n vs nss es ess) : B ≤ g := h.own.ge g rfl
/-- another list of one's own: what is known of it -/
theorem NW.other (h : NW w B g n vs nss es ess) (hu : es[k]? = some u) (hz : ess[k]? = some zs) : OwnInts w B tN u zs := by
  refine h.fam.row (n + k) u zs ?_ ?_
  · rw [List.getElem?_append_right (by rw [h.len]; omega), h.len, Nat.add_sub_cancel_left]; exact hu
  · rw [List.getElem?_append_right (by rw [List.length_map, h.len']; omega), List.length_map, h.len', Nat.add_sub_cancel_left]; exact hz
/-- another list has turned or grown -/
theorem NW.step (h : NW w B g n vs nss es ess) (hu : es[k]? = some u) (hz : ess[k]? = some zs) (ho : OwnInts w1 B tN u1 zs1) (hgr : Grow w w1 u u1) : NW w1 B g n vs nss (es.set k u1) (ess.set k zs1) := by
  have hr := h.other hu hz
  have how : Own w1 B tNL (.slice (some ⟨g, 0, none⟩) n n) vs := h.own.kept hgr.1 (h.own.ne_of_type hr.1 (by decide))
  have hf := h.fam.step (k := n + k) (u := u) (by rw [List.getElem?_append_right (by rw [h.len]; omega), h.len, Nat.add_sub_cancel_left]; exact hu) ho hgr
  rw [List.set_append, if_neg (by rw [h.len]; omega), h.len, Nat.add_sub_cancel_left, List.set_append, if_neg (by rw [List.length_map, h.len']; omega), List.length_map, h.len', Nat.add_sub_cancel_left] at hf
  exact ⟨how, h.len, h.len', hf⟩
/-- one list more, which has just been made -/
theorem NW.snoc (h : NW w B g n vs nss es ess) (hb : Below w.heap.size w w1) (ho : OwnInts w1 w.heap.size tN u zs) (hB : B ≤ w.heap.size) : NW w1 B g n vs nss (es ++ [u]) (ess ++ [zs]) := by
  have h1 := h.below hb
  refine ⟨h1.own, h.len, h.len', ?_⟩
  rw [← List.append_assoc, ← List.append_assoc]
  refine h1.fam.snoc (ho.mono hB) fun j u' hj => ?_
  exact h.fam.fresh ho.1.ge j u' hj
/-- a block of another type has turned -/
theorem NW.apart {v : Value} {B' : Nat} {e' : TypeId} {cs : List Value} (h : NW w B g n vs nss es ess) (hg : w.grownBy w' v.ownBlock) (ho : Own w B' e' v cs) (hne : tN ≠ e') (hne' : tNL ≠ e') : NW w' B g n vs nss es ess :=
  ⟨h.own.kept hg (h.own.ne_of_type ho hne'), h.len, h.len', h.fam.other hg ho hne⟩
/-- a block of another type has turned -/
theorem NW.keptBT {v : Value} {e' : TypeId} (h : NW w B g n vs nss es ess) (hg : w.grownBy w' v.ownBlock) (hb : BT w e' v) (hne : tN ≠ e') (hne' : tNL ≠ e') : NW w' B g n vs nss es ess :=
  ⟨h.own.kept hg (h.own.bt.ne hb hne'), h.len, h.len', ⟨h.fam.len, fun k u zs hu hz => (h.fam.row k u zs hu hz).kept hg ((h.fam.row k u zs hu hz).1.bt.ne hb hne), h.fam.apart⟩⟩
/-- another list has grown by one number -/
theorem NW.push {zn : List Nat} (h : NW w B g n vs nss es ess) (hu : es[k]? = some u) (hz : ess[k]? = some (up zn)) (ho : Own w1 B tN u1 (ints (up zn) ++ [.int .i64 (x : Int)])) (hx : x ≤ 1000000) (hgr : Grow w w1 u u1) : NW w1 B g n vs nss (es.set k u1) (ess.set k (up (zn ++ [x]))) := by
  refine h.step hu hz ⟨by rw [up_append]; simpa [ints, up] using ho, fun z hz' => ?_⟩ hgr
  rw [up_append] at hz'
  rcases List.mem_append.1 hz' with hz' | hz'
  · exact (h.other hu hz).2 z hz'
  · simp [up] at hz'; subst hz'; unfold In64; omega
/-- a store into another list -/
theorem NW.put {g1 n1 c1 j : Nat} {zn : List Nat} (h : NW w B g n vs nss es ess) (hu : es[k]? = some (.slice (some ⟨g1, 0, none⟩) n1 c1)) (hz : ess[k]? = some (up zn)) (hj : j < zn.length) (x : Nat) (hx : x ≤ 1000000) :
    (∃ u0, w.cell? ⟨g1, j, none⟩ = some u0) ∧ w.frozen? ⟨g1, j, none⟩ = false ∧ NW (w.setCell ⟨g1, j, none⟩ (.int .i64 (x : Int))) B g n vs nss es (ess.set k (up (zn.set j x))) ∧ B ≤ g1 ∧ w.grownBy (w.setCell ⟨g1, j, none⟩ (.int .i64 (x : Int))) (some g1) := by
  have hr := h.other hu hz
  obtain ⟨u0, -, hc, hf, -, hB, hown, hg⟩ := hr.1.storeAt (k := j) (by rw [ints_len, up_len]; exact hj) (.int .i64 (x : Int))
  have ho : OwnInts (w.setCell ⟨g1, j, none⟩ (.int .i64 (x : Int))) B tN (.slice (some ⟨g1, 0, none⟩) n1 c1) (up (zn.set j x)) := by
    refine ⟨by simpa [ints, up, List.map_set] using hown, fun z hz => ?_⟩
    simp only [up, List.map_set] at hz
    rcases List.mem_or_eq_of_mem_set hz with hz | hz
    · exact hr.2 z hz
    · rw [hz]; unfold In64; omega
  have hs := h.step hu hz ho ⟨hg, .inl rfl⟩
  have e : es.set k (.slice (some ⟨g1, 0, none⟩) n1 c1) = es := by
    apply List.ext_getElem?
    intro i
    rw [List.getElem?_set]
    by_cases hki : k = i
    · subst hki; rw [if_pos rfl, if_pos (List.getElem?_eq_some_iff.1 hu).1, hu]
    · rw [if_neg hki]
  rw [e] at hs
  exact ⟨⟨u0, hc⟩, hf, hs, hB, hg⟩
/-- a number in another list -/
theorem NW.num {g1 n1 c1 j : Nat} {zn : List Nat} (h : NW w B g n vs nss es ess) (hu : es[k]? = some (.slice (some ⟨g1, 0, none⟩) n1 c1)) (hz : ess[k]? = some (up zn)) (hj : j < zn.length) : w.cell? ⟨g1, j, none⟩ = some (.int .i64 (zn.getD j 0 : Nat)) := by
  have hr := (h.other hu hz).ints
  obtain ⟨A, c, e, -, -, h3⟩ := hr.open_
  obtain ⟨ad, z, hA, hz', -, hc⟩ := h3 j (by rw [up_len]; exact hj)
  simp only [Value.slice.injEq] at e
  obtain ⟨rfl, -, -⟩ := e
  injection hA with hA
  subst hA
  obtain ⟨l, hl, hzl⟩ := up_getD hz'
  have e2 : (⟨g1, 0, none⟩ : Addr).add j = ⟨g1, j, none⟩ := by by_cases h0 : j = 0 <;> simp [Addr.add, h0]
  rw [e2] at hc
  rw [hc, hzl]
  simp [List.getD, hl]
end

/-- rows that have grown, ahead of their stores: the outer list still holds vs, the rows are us -/
structure NW2 (w : World) (B g n : Nat) (vs us : List Value) (nss : List (List Nat)) (es : List Value) (ess : List (List Int)) : Prop where
  own : Own w B tNL (.slice (some ⟨g, 0, none⟩) n n) vs
  len : vs.length = n
  lenu : us.length = n
  len' : nss.length = n
  fam : Fam w B tN (us ++ es) (nss.map up ++ ess)
section
variable {w w' w1 : World} {B g n k x : Nat} {vs us es : List Value} {nss : List (List Nat)} {ess : List (List Int)} {u u1 : Value} {ns : List Nat}
theorem NW.two (h : NW w B g n vs nss es ess) : NW2 w B g n vs vs nss es ess := ⟨h.own, h.len, h.len, h.len', h.fam⟩
theorem NW2.one (h : NW2 w B g n vs us nss es ess) (e : vs = us) : NW w B g n vs nss es ess := ⟨h.own, h.len, h.len', by rw [e]; exact h.fam⟩
theorem NW2.below (h : NW2 w B g n vs us nss es ess) (hb : Below w.heap.size w w') : NW2 w' B g n vs us nss es ess := ⟨h.own.below hb, h.len, h.lenu, h.len', h.fam.below hb⟩
theorem NW2.row (h : NW2 w B g n vs us nss es ess) (hu : us[k]? = some u) (hz : nss[k]? = some ns) : OwnInts w B tN u (up ns) := by
  have hk := (List.getElem?_eq_some_iff.1 hu).1
  have hkn := (List.getElem?_eq_some_iff.1 hz).1
  exact h.fam.row k u (up ns) (by rw [List.getElem?_append_left hk]; exact hu) (by rw [List.getElem?_append_left (by rw [List.length_map]; exact hkn), List.getElem?_map, hz]; rfl)
theorem NW2.app (h : NW2 w B g n vs us nss es ess) (hu : us[k]? = some u) (hz : nss[k]? = some ns) (ho : Own w1 B tN u1 (ints (up ns) ++ [.int .i64 (x : Int)])) (hx : x ≤ 1000000) (hgr : Grow w w1 u u1) : NW2 w1 B g n vs (us.set k u1) (addAt x k nss) es ess := by
  have hk := (List.getElem?_eq_some_iff.1 hu).1
  have hkn := (List.getElem?_eq_some_iff.1 hz).1
  have hr := h.row hu hz
  have how : Own w1 B tNL (.slice (some ⟨g, 0, none⟩) n n) vs := h.own.kept hgr.1 (h.own.ne_of_type hr.1 (by decide))
  have hnew : OwnInts w1 B tN u1 (up (ns ++ [x])) := by
    refine ⟨by rw [up_append]; simpa [ints, up] using ho, fun z hz => ?_⟩
    rw [up_append] at hz
    rcases List.mem_append.1 hz with hz | hz
    · exact hr.2 z hz
    · simp [up] at hz; subst hz; unfold In64; omega
  have hf := h.fam.step (k := k) (by rw [List.getElem?_append_left hk]; exact hu) hnew hgr
  rw [List.set_append, if_pos hk, List.set_append, if_pos (by rw [List.length_map]; exact hkn)] at hf
  refine ⟨how, h.len, by rw [List.length_set]; exact h.lenu, by rw [addAt_len]; exact h.len', ?_⟩
  rw [addAt_set hz, List.map_set]
  exact hf
theorem NW2.cell (h : NW2 w B g n vs us nss es ess) (hu : vs[k]? = some u) : w.cell? ⟨g, k, none⟩ = some u := by
  obtain ⟨ad, n', c', he, hc⟩ := h.own.cells.at_ hu
  simp only [Value.slice.injEq, Option.some.injEq] at he
  obtain ⟨rfl, -, -⟩ := he
  have e : (⟨g, 0, none⟩ : Addr).add k = ⟨g, k, none⟩ := by by_cases h0 : k = 0 <;> simp [Addr.add, h0]
  rwa [e] at hc
theorem NW2.store (h : NW2 w B g n vs us nss es ess) (hk : k < n) (u1 : Value) : (∃ u0, w.cell? ⟨g, k, none⟩ = some u0) ∧ w.frozen? ⟨g, k, none⟩ = false ∧ NW2 (w.setCell ⟨g, k, none⟩ u1) B g n (vs.set k u1) us nss es ess ∧ w.grownBy (w.setCell ⟨g, k, none⟩ u1) (some g) := by
  obtain ⟨u0, -, hc, hfr, -, -, hown, hg2⟩ := h.own.storeAt (by rw [h.len]; exact hk) u1
  exact ⟨⟨u0, hc⟩, hfr, ⟨hown, by rw [List.length_set]; exact h.len, h.lenu, h.len', h.fam.other (v := .slice (some ⟨g, 0, none⟩) n n) hg2 h.own (by decide)⟩, hg2⟩
end

theorem parF_len (t : List Nat) : ∀ (ls : List Nat) (i : Nat), (parF t ls i).length = ls.length
  | [], i => rfl
  | l :: ls, i => by rw [parF, List.length_cons, parF_len t ls (i + 1), List.length_cons]
theorem parF_get (t : List Nat) : ∀ (ls : List Nat) (i k l : Nat), ls[k]? = some l → (parF t ls i)[k]? = some (parN t l (i + k))
  | [], i, k, l, h => by simp at h
  | x :: ls, i, 0, l, h => by simp at h; subst h; rfl
  | x :: ls, i, k + 1, l, h => by
    rw [parF, List.getElem?_cons_succ, parF_get t ls (i + 1) k l (by simpa using h)]
    congr 2; omega
theorem parents_get {t : List Nat} {k l : Nat} (h : t[k]? = some l) : (parents t)[k]? = some (parN t l k) := by
  rw [parents, parF_get t t 0 k l h, Nat.zero_add]
theorem parents_len (t : List Nat) : (parents t).length = t.length := parF_len t t 0
theorem parN_le (t : List Nat) (l : Nat) : ∀ k : Nat, parN t l k ≤ k
  | 0 => Nat.le_refl _
  | k + 1 => by
    rw [parN]
    cases Nat.beq (t.getD k 0 + 1) l with
    | true => exact Nat.le_refl _
    | false => exact Nat.le_succ_of_le (parN_le t l k)
theorem pzTo_get {t : List Nat} {n k : Nat} (h : k < n) : (pzTo t n)[k]? = some ((parN t (t.getD k 0) k : Int) - 1) := by
  simp [pzTo, h]
/-- short rows of small numbers -/
def NB (nss : List (List Nat)) (m n : Nat) : Prop := ∀ ns ∈ nss, ns.length ≤ m ∧ ∀ x ∈ ns, x < n
theorem NB.add {nss : List (List Nat)} {m n x i : Nat} (h : NB nss m n) (hx : x < n) : NB (addAt x i nss) (m + 1) n := by
  intro ns hns
  rcases mem_addAt hns with hns | ⟨b, hb, rfl⟩
  · exact ⟨by have := (h ns hns).1; omega, (h ns hns).2⟩
  · refine ⟨by have := (h b hb).1; simp; omega, fun y hy => ?_⟩
    rcases List.mem_append.1 hy with hy | hy
    · exact (h b hb).2 y hy
    · simp at hy; omega
theorem NB.mono {nss : List (List Nat)} {m m' n : Nat} (h : NB nss m n) (hm : m ≤ m') : NB nss m' n := fun ns hns => ⟨Nat.le_trans (h ns hns).1 hm, (h ns hns).2⟩
theorem NB.nil (k m n : Nat) : NB (List.replicate k []) m n := by
  intro ns hns
  have := List.eq_of_mem_replicate hns
  subst this
  exact ⟨Nat.zero_le _, fun x hx => by simp at hx⟩
end Go.Proofs.Ytofabikjjkapmaa

set_option maxRecDepth 100000
set_option linter.unusedVariables false
set_option linter.unusedSimpArgs false
namespace Go.Proofs.Ytofabikjjkapmaa
open Go.RowKit

end Go.Proofs.Ytofabikjjkapmaa

