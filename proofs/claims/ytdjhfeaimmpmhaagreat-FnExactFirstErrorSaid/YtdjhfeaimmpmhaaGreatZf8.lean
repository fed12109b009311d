/- Walk: treeFrom of the program. | Owned lists whose elements are k cells each (arrays, structs). No program in sight. -/
import Derived.Test.YtdjhfeaimmpmhaaGreatZf7
import Derived.Test.YtdjhfeaimmpmhaaGreatZf1
import Derived.Laws.MakeOwn
set_option maxRecDepth 100000
set_option linter.unusedVariables false
set_option linter.unusedSimpArgs false
namespace Go.Proofs.YtdjhfeaimmpmhaaGreat
open Go.RowKit

theorem filter_at {α : Type} (p : α → Bool) {ns : List α} {j : Nat} {x : α} (hx : ns[j]? = some x) :
    (p x = true → (ns.filter p)[((ns.take j).filter p).length]? = some x ∧ ((ns.take (j + 1)).filter p).length = ((ns.take j).filter p).length + 1) ∧
    (p x = false → ((ns.take (j + 1)).filter p).length = ((ns.take j).filter p).length) := by
  have e : ns.take (j + 1) = ns.take j ++ [x] := by rw [List.take_add_one, hx]; rfl
  refine ⟨fun h => ⟨?_, ?_⟩, fun h => ?_⟩
  · have h2 : ns.filter p = (ns.take j).filter p ++ x :: (ns.drop (j + 1)).filter p := by
      have h3 := congrArg (List.filter p) (List.take_append_drop (j + 1) ns)
      rw [List.filter_append, e, List.filter_append] at h3
      rw [← h3]
      simp [h]
    rw [h2, List.getElem?_append_right (Nat.le_refl _), Nat.sub_self]
    rfl
  · rw [e, List.filter_append]; simp [h]
  · rw [e, List.filter_append]; simp [h]
theorem tfO_parts {f : Nat} {near : List (List Nat)} {root fr : Nat} {r : List Nat} (h : tfO (f + 1) near root fr = some r) :
    ∃ ns bs, near[root]? = some ns ∧ mapO (fun n => tfO f near n (root + 1)) (ns.filter fun n => !Nat.beq (n + 1) fr) = some bs ∧ canO 9 (rootN bs) = some r := by
  rw [tfO] at h
  split at h
  · cases h
  · rename_i ns hns
    split at h
    · cases h
    · rename_i bs hbs
      exact ⟨ns, bs, hns, hbs, h⟩
theorem tfO_can {f : Nat} {near : List (List Nat)} {root fr : Nat} {r : List Nat} (h : tfO f near root fr = some r) : 0 < r.length ∧ ∀ l ∈ r, l < r.length := by
  cases f with
  | zero => cases h
  | succ f =>
    obtain ⟨ns, bs, -, -, h⟩ := tfO_parts h
    refine ⟨?_, canO_lt h⟩
    rw [canO_len h, rootN]
    simp
theorem len_le_brLen : ∀ {bs : List (List Nat)}, (∀ b ∈ bs, 0 < b.length) → bs.length ≤ brLen bs
  | [], _ => Nat.le_refl _
  | b :: bs, h => by
    have := len_le_brLen (bs := bs) fun x hx => h x (by simp [hx])
    have := h b (by simp)
    simp [brLen]
    omega
/-- the sizes of the branches of a tree made so -/
theorem tfO_sizes {f : Nat} {near : List (List Nat)} {root : Nat} {xs : List Nat} {bs : List (List Nat)} {r : List Nat} (hm : mapO (fun n => tfO f near n (root + 1)) xs = some bs) (hc : canO 9 (rootN bs) = some r) (hr : r.length ≤ 1000) :
    (∀ q ∈ bs, q.length ≤ 1000 ∧ ∀ l ∈ q, l < 1000000) ∧ brLen bs ≤ 999 ∧ bs.length ≤ 1000 := by
  have h1 := canO_len hc
  rw [rootN, List.length_cons, bumps_len] at h1
  refine ⟨fun q hq => ?_, by omega, ?_⟩
  · obtain ⟨x, -, hx⟩ := mapO_all hm q hq
    have h2 := brLen_memb hq
    exact ⟨by omega, fun l hl => by have := (tfO_can hx).2 l hl; omega⟩
  · have := len_le_brLen (bs := bs) fun b hb => by obtain ⟨x, -, hx⟩ := mapO_all hm b hb; exact (tfO_can hx).1
    omega

set_option maxHeartbeats 4000000 in
theorem i_treeFrom : ∀ (f : Nat) (w : World) (v : Value) (near : List (List Nat)) (root fr : Nat) (r : List Nat), Rows w v (near.map up) → tfO f near root fr = some r → r.length ≤ 1000 → near.length ≤ 1000 → root < near.length → fr ≤ 1000 → (∀ ns ∈ near, ∀ n ∈ ns, n < near.length) →
    Calls Tryz.prog 171 #[v, .int .i64 root, .int .i64 ((fr : Int) - 1)] w fun e w' => ∃ x, e = .returned x ∧ OwnInts w' w.heap.size tI x (up r) ∧ Below w.heap.size w w' := by
  intro f
  induction f with
  | zero => intro w v near root fr r _ h; cases h
  | succ f ih =>
    intro w v near root fr r ha htf hr hnl hroot hfr hnn
    obtain ⟨ns, bs, hns, hm, hcan⟩ := tfO_parts htf
    have IH := Lib.hid ih
    have HA := Lib.hid ha
    have HM := Lib.hid hm
    have HC := Lib.hid hcan
    have HNN := Lib.hid hnn
    have HSZ := Lib.hid (tfO_sizes hm hcan hr)
    have hnl0 := hnl
    have HRL := Lib.hid (show (rootN bs).length ≤ 1000 by rw [← canO_len hcan]; exact hr)
    obtain ⟨A, c, rfl, l1, l2, h3⟩ := ha.open_
    rw [List.length_map] at l1 h3 HA ⊢
    obtain ⟨ad, u, zs, rfl, hz, hu, hc0⟩ := h3 root hroot
    have hzs : zs = up ns := by rw [List.getElem?_map, hns] at hz; injection hz with hz; exact hz.symm
    subst hzs
    obtain ⟨An, cn, hun, m1, m2, hN⟩ := hu.open_
    rw [up_len] at hun m1 hN
    subst hun
    have HN := Lib.hid hN
    have HNB := Lib.hid (hnn ns (List.mem_of_getElem? hns))
    have hri : (root : Int) < (near.length : Int) := by omega
    have hr0 : (0 : Int) ≤ (root : Int) := by omega
    have OL := Lib.hid (show LL (w.alloc (.cells #[] tL)) w.heap.size (.slice (some ⟨w.heap.size, 0, none⟩) 0 0) [] from ⟨[], own_lit w tL [] (by simp [maxLen]), RR.nil _ _⟩)
    have hca : ∀ o, (w.alloc o).cell? (ad.add root) = some (.slice An ns.length cn) := fun o => by rw [(below1 w o).cell (by rw [block_add]; have := World.block_lt_of_cell? w _ hc0; rwa [block_add] at this)]; exact hc0
    clear ih ha htf hm hcan hz hu hc0 h3 hN hnn hns
    go_enter Tryz.func171, Tryz.ntmps171
    go_wp2_with fail
    have HLV := Lib.hid (show ∀ l ∈ rootN bs, l ≤ 1000000 from fun l hl => by
      rw [rootN] at hl
      rcases List.mem_cons.1 hl with rfl | hl
      · omega
      · obtain ⟨b, hb, l', hl', rfl⟩ := bumps_mem hl
        have h1 := (HSZ.out.1 b hb).2 l' hl'
        omega)
    have HML := Lib.hid (show (ns.filter fun n => !Nat.beq (n + 1) fr).length = bs.length from (mapO_len HM.out).symm)
    go_loopw [7, 16] (fun o x wr => ∃ (j : Nat) (vs : List Value), j ≤ ns.length ∧ x = .int .i64 j ∧ Own wr w.heap.size tL o vs ∧ RR wr w.heap.size vs ((bs.take ((ns.take j).filter fun n => !Nat.beq (n + 1) fr).length).map up) ∧ Below w.heap.size w wr) (fun _ x _ => ns.length - (intOf x).toNat)
    case atStart =>
      obtain ⟨vs, h1, h2⟩ := OL.out
      exact ⟨0, vs, Nat.zero_le _, rfl, h1, by simpa using h2, below1 _ _⟩
    case round =>
      obtain ⟨j, vs, hj, rfl, hown, hrr, hbw⟩ := hrel
      clear OL hca
      have HO := Lib.hid hown
      have HRR := Lib.hid hrr
      have HBW := Lib.hid hbw
      by_cases hlt : j < ns.length
      · obtain ⟨an, z, rfl, hz, -, hcz0⟩ := HN.out j hlt
        obtain ⟨n, hn, hzn⟩ := up_getD hz
        have hc : wr.cell? (an.add j) = some (.int .i64 z) := by
          rw [hbw.cell (by rw [block_add]; have := World.block_lt_of_cell? w _ hcz0; rwa [block_add] at this)]; exact hcz0
        obtain ⟨F1, F2⟩ := filter_at (fun n => !Nat.beq (n + 1) fr) hn
        have hnl := HNB.out n (List.mem_of_getElem? hn)
        have hvl : vs.length ≤ 1000 := by
          have h1 := hrr.1
          have h2 := HSZ.out.2.2
          rw [List.length_map, List.length_take] at h1
          omega
        have hji : (j : Int) < (ns.length : Int) := by omega
        generalize ((ns.take j).filter fun n => !Nat.beq (n + 1) fr).length = K at HRR F1 F2 hrr
        by_cases hq : n + 1 = fr
        · have hd : (z != (fr : Int) - 1) = false := by rw [hzn]; simp; omega
          have HK := Lib.hid (F2 (by simp [hq]))
          clear hown hrr hbw hz hn hzn hcz0 F1 F2 hq
          go_wp2_with fail
          go_roundw
          case rel => exact ⟨j + 1, vs, by omega, by go_num, HO.out, by rw [HK.out]; exact HRR.out, HBW.out⟩
          case measure => simp [intOf]; omega
        · have hd : (z != (fr : Int) - 1) = true := by rw [hzn]; simp; omega
          have hpn : (!Nat.beq (n + 1) fr) = true := by
            cases hb : Nat.beq (n + 1) fr with
            | true => exact absurd (Nat.eq_of_beq_eq_true hb) hq
            | false => rfl
          obtain ⟨hat, hK⟩ := F1 hpn
          obtain ⟨b, hb, htb⟩ := mapO_get HM.out K n hat
          have HK := Lib.hid hK
          have HBT := Lib.hid (show bs.take (K + 1) = bs.take K ++ [b] by rw [List.take_add_one, hb]; rfl)
          have hI := IH.out wr _ near n (root + 1) b (HA.out.below hbw) htb (HSZ.out.1 b (List.mem_of_getElem? hb)).1 hnl0 hnl (by omega) HNN.out
          rw [show (((root + 1 : Nat) : Int) - 1) = (root : Int) by omega, ← hzn] at hI
          have HI := Lib.hid hI
          clear hown hrr hbw hz hn hzn hcz0 F1 F2 hq hI hat hK hb htb hpn
          go_wp2_with (first
            | (go_at_call 171; refine HI.out.mono ?_; rintro e w2 ⟨r2, rfl, ho2, hb2⟩; obtain ⟨A5, c5, he5, -, -, -⟩ := ho2.ints.open_; rw [up_len] at he5; subst he5; have HO2 := Lib.hid (ho2.mono HBW.out.size); have HBI := Lib.hid hb2; have HB2 := Lib.hid (HBW.out.trans (hb2.mono HBW.out.size)); have HOW := Lib.hid (HO.out.below hb2); clear ho2 hb2)
            | (at_builtin; refine wpList_app1 T_row HOW.out (by omega) HB2.out.size (by rfl) rfl (by rfl) (by rfl) (by rfl) ?_; intro v1 w5 hown1 hgr1; have HN1 := Lib.hid hown1; have HGR := Lib.hid hgr1.1; have HB5 := Lib.hid (hgr1.below HB2.out HB2.out.size HOW.out.ge); clear hown1 hgr1))
          go_roundw
          case rel =>
            refine ⟨j + 1, _, by omega, by go_num, HN1.out, ?_, HB5.out⟩
            rw [HK.out, HBT.out, List.map_append]
            exact LL.snoc HOW.out (HRR.out.below HBI.out) HO2.out HN1.out HGR.out
          case measure => simp [intOf]; omega
      · have : j = ns.length := by omega
        subst this
        rw [List.take_length, HML.out, List.take_length] at HRR
        have HROW := Lib.hid (HRR.out.rows HO.out)
        obtain ⟨A2, c2, rfl, -, -⟩ := hown.cells.open_
        clear hown hrr hbw
        go_wp2_with (first
          | (go_at_call 205; refine (i_rootOn _ _ bs HROW.out HSZ.out.1 (by have := HSZ.out.2.1; omega) HSZ.out.2.2).mono ?_; rintro e w4 ⟨x, rfl, hx, hb4⟩; obtain ⟨A5, c5, he5, -, -, -⟩ := hx.ints.open_; rw [up_len] at he5; subst he5; have HX := Lib.hid hx; have HB4 := Lib.hid (HBW.out.trans (hb4.mono HBW.out.size)); clear hx hb4)
          | (go_at_call 170; refine (i_canonical 9 _ _ _ r HX.out.ints HC.out HRL.out HLV.out).mono ?_; rintro e w6 ⟨x6, rfl, hx6, hb6⟩; have HX6 := Lib.hid hx6; have HB6 := Lib.hid hb6; clear hx6 hb6))
        go_ret
        exact ⟨_, rfl, HX6.out.mono HB4.out.size, HB4.out.trans (HB6.out.mono HB4.out.size)⟩
end Go.Proofs.YtdjhfeaimmpmhaaGreat

set_option maxRecDepth 100000
set_option linter.unusedVariables false
set_option linter.unusedSimpArgs false
namespace Go.Proofs.YtdjhfeaimmpmhaaGreat
open Go.RowKit

/-- the block of a slice has elements of type e -/
def BT (w : World) (e : TypeId) (v : Value) : Prop := v.ownBlock = none ∨ ∃ g cur fz, v.ownBlock = some g ∧ w.heap[g]? = some (.cells cur e fz)
theorem BT.ne {w : World} {e e' : TypeId} {v v' : Value} (h : BT w e v) (h' : BT w e' v') (hne : e ≠ e') : Apart v v' := by
  rcases h with h | ⟨g, cur, fz, h, hg⟩
  · exact .inl h
  · rcases h' with h' | ⟨g', cur', fz', h', hg'⟩
    · exact .inr (by rw [h, h']; simp)
    · refine .inr ?_
      rw [h, h']
      intro he
      injection he with he
      subst he
      rw [hg] at hg'
      injection hg' with hg'
      injection hg' with _ ht
      exact hne ht
theorem ownsRow_bt {w : World} {B e k n : Nat} {v : Value} {xs : List Value} (h : w.ownsRow B e k v n xs) : BT w e v := by
  rcases h.2 with ⟨rfl, _⟩ | ⟨g, cap, cur, rfl, _, hg, _⟩
  · exact .inl rfl
  · exact .inr ⟨g, cur, _, rfl, hg⟩
theorem Own.bt {w : World} {B : Nat} {e : TypeId} {v : Value} {vs : List Value} (h : Own w B e v vs) : BT w e v := ownsRow_bt h

/-- the call owns from block B on the slice v of elements of type e, k cells each -/
def OwnK (w : World) (B : Nat) (e : TypeId) (k : Nat) (v : Value) (css : List (List Value)) : Prop :=
  w.ownsRow B e k v css.length css.flatten ∧ ∀ c ∈ css, c.length = k

theorem flat_get {k : Nat} : ∀ {css : List (List Value)} {i j : Nat} {c : List Value} {u : Value}, (∀ c ∈ css, c.length = k) → css[i]? = some c → c[j]? = some u → css.flatten[i * k + j]? = some u
  | [], i, j, c, u, _, h, _ => by simp at h
  | d :: css, 0, j, c, u, hk, h, hu => by
    simp at h; subst h
    have := (List.getElem?_eq_some_iff.1 hu).1
    simp only [List.flatten_cons, Nat.zero_mul, Nat.zero_add]
    rw [List.getElem?_append_left this]
    exact hu
  | d :: css, i + 1, j, c, u, hk, h, hu => by
    have hd := hk d (by simp)
    rw [List.flatten_cons, List.getElem?_append_right (by rw [hd, Nat.add_mul]; omega), hd]
    have e : (i + 1) * k + j - k = i * k + j := by rw [Nat.add_mul]; omega
    rw [e]
    exact flat_get (fun c hc => hk c (by simp [hc])) (by simpa using h) hu
theorem flat_len {k : Nat} : ∀ {css : List (List Value)}, (∀ c ∈ css, c.length = k) → css.flatten.length = css.length * k
  | [], _ => by simp
  | d :: css, hk => by rw [List.flatten_cons, List.length_append, hk d (by simp), flat_len fun c hc => hk c (by simp [hc]), List.length_cons, Nat.add_mul]; omega
theorem flat_set {k : Nat} : ∀ {css : List (List Value)} {i j : Nat} {c : List Value} {u : Value}, (∀ c ∈ css, c.length = k) → css[i]? = some c → j < k → css.flatten.set (i * k + j) u = (css.set i (c.set j u)).flatten
  | [], i, j, c, u, _, h, _ => by simp at h
  | d :: css, 0, j, c, u, hk, h, hj => by
    simp at h; subst h
    have hd := hk d (by simp)
    rw [List.flatten_cons, Nat.zero_mul, Nat.zero_add, List.set_append, if_pos (by omega), List.set_cons_zero, List.flatten_cons]
  | d :: css, i + 1, j, c, u, hk, h, hj => by
    have hd := hk d (by simp)
    rw [List.flatten_cons, List.set_append, if_neg (by rw [hd, Nat.add_mul]; omega), hd]
    have e : (i + 1) * k + j - k = i * k + j := by rw [Nat.add_mul]; omega
    rw [e, flat_set (fun c hc => hk c (by simp [hc])) (by simpa using h) hj, List.set_cons_succ, List.flatten_cons]

section
variable {w w' : World} {B k : Nat} {e : TypeId} {v : Value} {css : List (List Value)}
theorem OwnK.cases (h : OwnK w B e k v css) : (v = .slice none 0 0 ∧ css = []) ∨
    ∃ g cap cur, v = .slice (some ⟨g, 0, none⟩) css.length cap ∧ B ≤ g ∧ g < w.heap.size ∧ w.heap[g]? = some (.cells cur e (0, 0)) ∧ css.length ≤ cap ∧ cap ≤ maxLen := by
  rcases h.1.2 with ⟨h1, h2⟩ | ⟨g, cap, cur, h1, h2, h3, h4, h5, h6, h7⟩
  · exact .inl ⟨h1, List.eq_nil_of_length_eq_zero h2⟩
  · exact .inr ⟨g, cap, cur, h1, h2, (Array.getElem?_eq_some_iff.1 h3).1, h3, h4, h5⟩
theorem OwnK.open_ (h : OwnK w B e k v css) : ∃ A c, v = .slice A css.length c ∧ css.length ≤ c ∧ c ≤ 9223372036854775807 := by
  rcases h.cases with ⟨rfl, rfl⟩ | ⟨g, cap, cur, rfl, -, -, -, h4, h5⟩
  · exact ⟨none, 0, rfl, Nat.le_refl _, by omega⟩
  · exact ⟨_, cap, rfl, h4, by simpa [maxLen] using h5⟩
theorem OwnK.nil (w : World) (B : Nat) (e : TypeId) (k : Nat) : OwnK w B e k (.slice none 0 0) [] := ⟨World.ownsRow_nil w B e k, fun c hc => by simp at hc⟩
theorem OwnK.of_block (h : OwnK w B e k v css) (hb : ∀ b, v.ownBlock = some b → w'.heap[b]? = w.heap[b]?) : OwnK w' B e k v css := by
  refine ⟨⟨h.1.1, ?_⟩, h.2⟩
  rcases h.1.2 with hn | ⟨g, cap, cur, rfl, hB, hgg, rest⟩
  · exact .inl hn
  · exact .inr ⟨g, cap, cur, rfl, hB, by rw [hb g rfl]; exact hgg, rest⟩
theorem OwnK.lt (h : OwnK w B e k v css) : ∀ b, v.ownBlock = some b → b < w.heap.size := fun b hb => (World.ownsRow.lt h.1 b hb).2
theorem OwnK.ge (h : OwnK w B e k v css) : ∀ b, v.ownBlock = some b → B ≤ b := fun b hb => (World.ownsRow.lt h.1 b hb).1
theorem OwnK.below (h : OwnK w B e k v css) (hb : Below w.heap.size w w') : OwnK w' B e k v css := h.of_block fun b hv => hb.block b (h.lt b hv)
theorem OwnK.kept (h : OwnK w B e k v css) {row : Option Nat} (hg : w.grownBy w' row) (hne : v.ownBlock = none ∨ v.ownBlock ≠ row) : OwnK w' B e k v css := ⟨World.ownsRow.kept h.1 hg hne, h.2⟩
theorem OwnK.mono {B' : Nat} (h : OwnK w B e k v css) (hB : B' ≤ B) : OwnK w B' e k v css := by
  refine ⟨⟨h.1.1, ?_⟩, h.2⟩
  rcases h.1.2 with hn | ⟨g, cap, cur, rfl, hB', rest⟩
  · exact .inl hn
  · exact .inr ⟨g, cap, cur, rfl, by omega, rest⟩
theorem OwnK.drewN (h : OwnK w B e k v css) (n : Nat) : OwnK (w.drewN n) B e k v css := h
theorem OwnK.bt (h : OwnK w B e k v css) : BT w e v := ownsRow_bt h.1
theorem addr_add (g n : Nat) : (⟨g, 0, none⟩ : Addr).add n = ⟨g, n, none⟩ := by by_cases h0 : n = 0 <;> simp [Addr.add, h0]
/-- cell j of element i -/
theorem OwnK.cell {i j : Nat} {c : List Value} {u : Value} (h : OwnK w B e k v css) (hc : css[i]? = some c) (hu : c[j]? = some u) : ∃ g cap, v = .slice (some ⟨g, 0, none⟩) css.length cap ∧ w.cell? ⟨g, i * k + j, none⟩ = some u := by
  rcases h.cases with ⟨_, rfl⟩ | ⟨g, cap, cur, rfl, h1, h2, h3, h4, h5⟩
  · simp at hc
  · refine ⟨g, cap, rfl, ?_⟩
    have := World.ownsRow.cells h.1 (g := g) rfl (i * k + j) u (flat_get h.2 hc hu)
    rwa [addr_add] at this
theorem OwnK.cellAt {g n cap i j : Nat} {c : List Value} {u : Value} (h : OwnK w B e k (.slice (some ⟨g, 0, none⟩) n cap) css) (hc : css[i]? = some c) (hu : c[j]? = some u) : w.cell? ⟨g, i * k + j, none⟩ = some u := by
  obtain ⟨g', cap', hv, h1⟩ := h.cell hc hu
  simp only [Value.slice.injEq, Option.some.injEq, Addr.mk.injEq, and_true, true_and] at hv
  rw [hv.1]; exact h1
/-- a store into cell j of element i -/
theorem OwnK.storeAt {g n cap i j : Nat} {c : List Value} (h : OwnK w B e k (.slice (some ⟨g, 0, none⟩) n cap) css) (hc : css[i]? = some c) (hj : j < k) (u : Value) :
    (∃ u0, w.cell? ⟨g, i * k + j, none⟩ = some u0) ∧ w.frozen? ⟨g, i * k + j, none⟩ = false ∧ B ≤ g ∧ OwnK (w.setCell ⟨g, i * k + j, none⟩ u) B e k (.slice (some ⟨g, 0, none⟩) n cap) (css.set i (c.set j u)) ∧ w.grownBy (w.setCell ⟨g, i * k + j, none⟩ u) (some g) := by
  have hck := h.2 c (List.mem_of_getElem? hc)
  have hu0 : c[j]? = some (c[j]'(by omega)) := List.getElem?_eq_getElem _
  have hn : n = css.length := by
    rcases h.cases with ⟨he, _⟩ | ⟨g', cap', cur, he, _⟩
    · cases he
    · simp only [Value.slice.injEq] at he; exact he.2.1
  subst hn
  have hs := World.ownsRow.stored h.1 (i * k + j) u
  refine ⟨⟨_, h.cellAt hc hu0⟩, World.ownsRow.frozenAt h.1 _, h.ge g rfl, ⟨?_, fun d hd => ?_⟩, hs.2⟩
  · rw [List.length_set, ← flat_set h.2 hc hj]; exact hs.1
  · rcases List.mem_or_eq_of_mem_set hd with hd | hd
    · exact h.2 d hd
    · rw [hd, List.length_set]; exact hck
end

/-- what is known of a slice type t over elements of type e, k cells each -/
structure ElemK (P : Program) (t e : TypeId) (z : Value) (k bytes : Nat) : Prop where
  under : P.underlying t = some (.slice e)
  info : (P.info? e).map (fun i => (i.zero, i.size, i.bytes)) = some (some z, k, bytes)
  cells : z.cells.size = k
  pos : 0 < k
  small : bytes ≤ 64

theorem OwnK.lit (W : World) (e : TypeId) (k : Nat) (css : List (List Value)) (hk : ∀ c ∈ css, c.length = k) (hn : css.length ≤ maxLen) (cs : Array Value) (hcs : cs.toList = css.flatten) :
    OwnK (W.alloc (.cells cs e)) W.heap.size e k (.slice (some ⟨W.heap.size, 0, none⟩) css.length css.length) css := by
  refine ⟨?_, hk⟩
  have := World.ownsRow_lit (base := W.heap.size) (e := e) (size := k) W cs css.length (Nat.le_refl _) hn (by rw [← Array.length_toList, hcs, flat_len hk])
  rwa [hcs] at this

/-- append of one element of k cells, which lies anywhere -/
theorem run_app1K {P : Program} {t e : TypeId} {z : Value} {k bytes B : Nat} {v : Value} {css : List (List Value)} {W : World} {c : List Value} {ad : Addr} (ty : TypeId)
    (T : ElemK P t e z k bytes) (hown : OwnK W B e k v css) (hlen : css.length < 1099511627776) (hB : B ≤ W.heap.size) (hc : c.length = k) (hu : ∀ u ∈ c, u.oneCell' = true)
    (hcell : ∀ j u, c[j]? = some u → W.cell? (ad.add j) = some u) :
    ∃ v' w', (Builtin.append_ #[t, t] ty #[v, .slice (some ad) 1 1]).run P W = .ok v' w' ∧ OwnK w' B e k v' (css ++ [c]) ∧ Grow W w' v v' := by
  obtain ⟨i, hi, hz, h1, h2⟩ := info_parts T.info
  have hby := T.small
  obtain ⟨v', w', hrun, r1, r2, _, r3⟩ := run_append_own_at (P := P) W B t ty e i z k bytes T.under hi hz h1 h2 T.cells T.pos v css.length css.flatten hown.1 ad 1 1 c (by omega) hcell hu (by simp only [maxLen]; omega) (by have := Nat.mul_le_mul_left (css.length + 1) hby; omega) hB
  refine ⟨v', w', hrun, ⟨by simpa using r1, fun d hd => ?_⟩, r2, ?_⟩
  · rcases List.mem_append.1 hd with hd | hd
    · exact hown.2 d hd
    · simp at hd; rw [hd]; exact hc
  · rcases r3 with r3 | r3
    · exact .inl r3
    · exact .inr ⟨_, r3, Nat.le_refl _⟩

theorem wpList_app1K {P : Program} {ops : Array Oper} {rest : List Oper} {o : Oper} {a : Act} {Q : Exit → Act → World → Prop} {s x : Operand} {t : TypeId}
    {e : TypeId} {z : Value} {k bytes : Nat} {B : Nat} {v : Value} {css : List (List Value)} {W : World} {c : List Value} {ad : Addr}
    (T : ElemK P t e z k bytes) (hown : OwnK W B e k v css) (hlen : css.length < 1099511627776) (hB : B ≤ W.heap.size) (hc : c.length = k) (hu : ∀ u ∈ c, u.oneCell' = true)
    (hcell : ∀ j u, c[j]? = some u → W.cell? (ad.add j) = some u)
    (hgd : o.guard = none) (ho : o.op = .call { callee := .builtin .append, args := #[s, x], argTypes := #[t, t] }) (hs : a.eval s = v)
    (hx : a.eval x = .slice (some ad) 1 1)
    (h : ∀ v' w', OwnK w' B e k v' (css ++ [c]) → Grow W w' v v' → wpList P ops Q rest (a.put o.dst v') w') : wpList P ops Q (o :: rest) a W := by
  obtain ⟨v', w', hrun, r1, r2⟩ := run_app1K o.type T hown hlen hB hc hu hcell
  refine wpList_plain hgd fun K hK => ?_
  unfold Oper.wp execOp
  simp only [ho, resolve, invoke, builtin, Sem.run_bind, Sem.run_pure, Result.andThen_ok, List.map_toArray, List.map_cons, List.map_nil, hs, hx, hrun]
  exact hK _ _ (h v' w' r1 r2)

/-- the same, met in a region that draws -/
theorem step_app1K {P : Program} {ops : Array Oper} {o : Oper} {a : Act} {K : Act → World → Prop} {Q : Exit → Act → World → Prop} {E : Prop} {s x : Operand} {t : TypeId}
    {e : TypeId} {z : Value} {k bytes : Nat} {B : Nat} {v : Value} {css : List (List Value)} {W : World} {c : List Value} {ad : Addr}
    (T : ElemK P t e z k bytes) (hown : OwnK W B e k v css) (hlen : css.length < 1099511627776) (hB : B ≤ W.heap.size) (hc : c.length = k) (hu : ∀ u ∈ c, u.oneCell' = true)
    (hcell : ∀ j u, c[j]? = some u → W.cell? (ad.add j) = some u)
    (hgd : o.guard = none) (ho : o.op = .call { callee := .builtin .append, args := #[s, x], argTypes := #[t, t] }) (hs : a.eval s = v)
    (hx : a.eval x = .slice (some ad) 1 1)
    (h : ∀ v' w', OwnK w' B e k v' (css ++ [c]) → Grow W w' v v' → K (a.put o.dst v') w') :
    if Region.wanted o (yielded ops a.tmps) = true then Oper.wp P o a W K Q else E := by
  have hw : Region.wanted o (yielded ops a.tmps) = true := by simp [Region.wanted, hgd]
  rw [if_pos hw]
  obtain ⟨v', w', hrun, r1, r2⟩ := run_app1K o.type T hown hlen hB hc hu hcell
  unfold Oper.wp execOp
  simp only [ho, resolve, invoke, builtin, Sem.run_bind, Sem.run_pure, Result.andThen_ok, List.map_toArray, List.map_cons, List.map_nil, hs, hx, hrun]
  exact h v' w' r1 r2

/-- the cells of a literal of one element of k cells, just laid -/
theorem lit_cells (W : World) (e : TypeId) (c : List Value) (cs : Array Value) (hcs : cs.toList = c) : ∀ j u, c[j]? = some u → (W.alloc (.cells cs e)).cell? ((⟨W.heap.size, 0, none⟩ : Addr).add j) = some u := by
  intro j u hu
  rw [addr_add, (Blk.new W cs e).cell, ← Array.getElem?_toList, hcs]
  exact hu
end Go.Proofs.YtdjhfeaimmpmhaaGreat

