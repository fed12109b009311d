import Derived.Test.YtofabikjjkapmaaGreatSm7
import Derived.Test.YtofabikjjkapmaaGreatSm6
set_option maxRecDepth 100000
set_option linter.unusedVariables false
set_option linter.unusedSimpArgs false
namespace Go.Proofs.YtofabikjjkapmaaGreat
open Go.RowKit
abbrev tNL : TypeId := 95
theorem T_nrow : ElemT Tryz.prog 154 95 (.slice none 0 0) 24 := ⟨Tryz.underlying154, by kernel_rfl, rfl, by omega⟩
theorem addAt_set {x : Nat} : ∀ {bs : List (List Nat)} {i : Nat} {b : List Nat}, bs[i]? = some b -> addAt x i bs = bs.set i (b ++ [x])
 | [], i, b, h => by simp at h
 | c :: bs, 0, b, h => by simp at h; subst h; rfl
 | c :: bs, i + 1, b, h => by rw [addAt, addAt_set (bs := bs) (by simpa using h)]; rfl
theorem addAt_len (x : Nat) : ∀ (i : Nat) (bs : List (List Nat)), (addAt x i bs).length = bs.length
 | _, [] => by cases ‹Nat› <;> rfl
 | 0, b :: bs => rfl
 | i + 1, b :: bs => by rw [addAt, List.length_cons, addAt_len x i bs, List.length_cons]
theorem mem_addAt {x : Nat} {ns : List Nat} : ∀ {i : Nat} {bs : List (List Nat)}, ns ∈ addAt x i bs -> ns ∈ bs \/ ∃ b ∈ bs, ns = b ++ [x]
 | _, [], h => by cases ‹Nat› <;> simp [addAt] at h
 | 0, b :: bs, h => by
  rw [addAt] at h
  rcases List.mem_cons.1 h with h | h
  · exact .inr ⟨b, by simp, h⟩
  · exact .inl (by simp [h])
 | i + 1, b :: bs, h => by
  rw [addAt] at h
  rcases List.mem_cons.1 h with h | h
  · exact .inl (by simp [h])
  · rcases mem_addAt h with h | ⟨c, hc, h⟩
    · exact .inl (by simp [h])
    · exact .inr ⟨c, by simp [hc], h⟩
structure Fam (w : World) (B : Nat) (e : TypeId) (us : List Value) (xss : List (List Int)) : Prop where
 len : us.length = xss.length
 row : ∀ (k : Nat) (u : Value) (zs : List Int), us[k]? = some u -> xss[k]? = some zs -> OwnInts w B e u zs
 apart : ∀ (i j : Nat) (u u' : Value), i ≠ j -> us[i]? = some u -> us[j]? = some u' -> Apart u u'
section
variable {w w' w1 : World} {B k : Nat} {e e' : TypeId} {us : List Value} {xss : List (List Int)} {u u1 : Value} {zs zs1 : List Int}
theorem Fam.below (h : Fam w B e us xss) (hb : Below w.heap.size w w') : Fam w' B e us xss := ⟨h.len, fun k u zs hu hz => (h.row k u zs hu hz).below hb, h.apart⟩
theorem Fam.other {v : Value} {B' : Nat} {cs : List Value} (h : Fam w B e us xss) (hg : w.grownBy w' v.ownBlock) (ho : Own w B' e' v cs) (hne : e ≠ e') : Fam w' B e us xss :=
 ⟨h.len, fun k u zs hu hz => (h.row k u zs hu hz).kept hg ((h.row k u zs hu hz).1.ne_of_type ho hne), h.apart⟩
theorem Fam.step (h : Fam w B e us xss) (hu : us[k]? = some u) (ho : OwnInts w1 B e u1 zs1) (hgr : Grow w w1 u u1) : Fam w1 B e (us.set k u1) (xss.set k zs1) := by
 have hk : k < us.length := (List.getElem?_eq_some_iff.1 hu).1
 have hap : ∀ (j : Nat) (u' : Value), k ≠ j -> us[j]? = some u' -> Apart u' u1 := by
  intro j u' hkj hj
  have h1 := h.apart j k u' u (Ne.symm hkj) hj hu
  have hz' : xss[j]? = some (xss[j]'(by rw [<- h.len]; exact (List.getElem?_eq_some_iff.1 hj).1)) := List.getElem?_eq_getElem _
  have h2 := (h.row j u' _ hj hz').1.lt
  rcases hgr.2 with h3 | ⟨b, h3, h4⟩
  · rcases h1 with h1 | h1
    · exact .inl h1
    · exact .inr (by rw [h3]; exact h1)
  · cases hb : u'.ownBlock with
    | none => exact .inl hb
    | some b' => exact .inr (by rw [h3]; intro e; rw [hb] at e; injection e with e; have := h2 b' hb; omega)
 refine ⟨by simp [h.len], fun j u' ns' hj hj' => ?_, fun i j a b hij ha hb => ?_⟩
 · rw [List.getElem?_set] at hj hj'
   by_cases hkj : k = j
   · subst hkj
     rw [if_pos rfl, if_pos hk] at hj
     rw [if_pos rfl, if_pos (by rw [<- h.len]; exact hk)] at hj'
     injection hj with hj; injection hj' with hj'
     subst hj; subst hj'
     exact ho
   · rw [if_neg hkj] at hj hj'
     exact (h.row j u' ns' hj hj').kept hgr.1 (h.apart j k u' u (Ne.symm hkj) hj hu)
 · rw [List.getElem?_set] at ha hb
   by_cases hki : k = i
   · subst hki
     rw [if_pos rfl, if_pos hk] at ha
     rw [if_neg hij] at hb
     injection ha with ha
     subst ha
     exact (hap j b hij hb).symm
   · rw [if_neg hki] at ha
     by_cases hkj : k = j
     · subst hkj
       rw [if_pos rfl, if_pos hk] at hb
       injection hb with hb
       subst hb
       exact hap i a hki ha
     · rw [if_neg hkj] at hb
       exact h.apart i j a b hij ha hb
theorem Fam.snoc (h : Fam w B e us xss) (ho : OwnInts w B e u zs) (hap : ∀ (j : Nat) (u' : Value), us[j]? = some u' -> Apart u' u) : Fam w B e (us ++ [u]) (xss ++ [zs]) := by
 refine ⟨by simp [h.len], fun j u' ns' hj hj' => ?_, fun i j a b hij ha hb => ?_⟩
 · by_cases hlt : j < us.length
   · rw [List.getElem?_append_left hlt] at hj
     rw [List.getElem?_append_left (by rw [<- h.len]; exact hlt)] at hj'
     exact h.row j u' ns' hj hj'
   · have hjl := (List.getElem?_eq_some_iff.1 hj).1
     simp at hjl
     have : j = us.length := by omega
     subst this
     rw [List.getElem?_append_right (Nat.le_refl _)] at hj
     rw [List.getElem?_append_right (by rw [h.len]; exact Nat.le_refl _), h.len] at hj'
     simp at hj hj'
     subst hj; subst hj'
     exact ho
 · have hx : ∀ (m : Nat) (c : Value), (us ++ [u])[m]? = some c -> (m < us.length /\ us[m]? = some c) \/ (m = us.length /\ c = u) := by
     intro m c hm
     by_cases hlt : m < us.length
     · rw [List.getElem?_append_left hlt] at hm; exact .inl ⟨hlt, hm⟩
     · have hml := (List.getElem?_eq_some_iff.1 hm).1
       simp at hml
       have : m = us.length := by omega
       subst this
       rw [List.getElem?_append_right (Nat.le_refl _)] at hm
       simp at hm
       exact .inr ⟨rfl, hm.symm⟩
   rcases hx i a ha with ⟨h1, h2⟩ | ⟨h1, h2⟩ <;> rcases hx j b hb with ⟨h3, h4⟩ | ⟨h3, h4⟩
   · exact h.apart i j a b hij h2 h4
   · subst h4; exact hap i a h2
   · subst h2; exact (hap j b h4).symm
   · omega
theorem Fam.fresh (h : Fam w B e us xss) (hge : ∀ b, u.ownBlock = some b -> w.heap.size <= b) : ∀ (j : Nat) (u' : Value), us[j]? = some u' -> Apart u' u := by
 intro j u' hj
 have hz' : xss[j]? = some (xss[j]'(by rw [<- h.len]; exact (List.getElem?_eq_some_iff.1 hj).1)) := List.getElem?_eq_getElem _
 exact apart_of_lt (h.row j u' _ hj hz').1.lt hge
theorem Fam.nils (w : World) (B : Nat) (e : TypeId) (n : Nat) : Fam w B e (List.replicate n (.slice none 0 0)) (List.replicate n []) := by
 refine ⟨by simp, fun k u zs hu hz => ?_, fun i j u u' _ hu _ => ?_⟩
 · rw [List.getElem?_replicate] at hu hz
   split at hu
   · rw [if_pos (by assumption)] at hz
     injection hu with hu; injection hz with hz
     subst hu; subst hz
     exact OwnInts.nil _ _ _
   · cases hu
 · rw [List.getElem?_replicate] at hu
   split at hu
   · injection hu with hu; subst hu; exact .inl rfl
   · cases hu
end
structure NW (w : World) (B g n : Nat) (vs : List Value) (nss : List (List Nat)) (es : List Value) (ess : List (List Int)) : Prop where
 own : Own w B tNL (.slice (some ⟨g, 0, none⟩) n n) vs
 len : vs.length = n
 len' : nss.length = n
 fam : Fam w B tN (vs ++ es) (nss.map up ++ ess)
section
variable {w w' w1 : World} {B g n k x : Nat} {vs es : List Value} {nss : List (List Nat)} {ess : List (List Int)} {u u1 : Value} {ns : List Nat} {zs zs1 : List Int}
theorem NW.below (h : NW w B g n vs nss es ess) (hb : Below w.heap.size w w') : NW w' B g n vs nss es ess := ⟨h.own.below hb, h.len, h.len', h.fam.below hb⟩
theorem NW.made (h : Own w B tNL (.slice (some ⟨g, 0, none⟩) n n) (List.replicate n (.slice none 0 0))) : NW w B g n (List.replicate n (.slice none 0 0)) (List.replicate n []) [] [] := by
 refine ⟨h, by simp, by simp, ?_⟩
 have := Fam.nils w B tN n
 simpa [List.map_replicate, up] using this
theorem NW.get (h : NW w B g n vs nss es ess) (hk : k < n) : ∃ A m c ns, vs[k]? = some (.slice A m c) /\ m = ns.length /\ nss[k]? = some ns /\ w.cell? ⟨g, k, none⟩ = some (.slice A m c) /\ OwnInts w B tN (.slice A m c) (up ns) := by
 have hu : vs[k]? = some (vs[k]'(by rw [h.len]; exact hk)) := List.getElem?_eq_getElem _
 have hz : nss[k]? = some (nss[k]'(by rw [h.len']; exact hk)) := List.getElem?_eq_getElem _
 have ho := h.fam.row k _ (up (nss[k]'(by rw [h.len']; exact hk))) (by rw [List.getElem?_append_left (by rw [h.len]; exact hk)]; exact hu) (by rw [List.getElem?_append_left (by rw [List.length_map, h.len']; exact hk), List.getElem?_map, hz]; rfl)
 obtain ⟨ad, n', c', he, hc⟩ := h.own.cells.at_ hu
 simp only [Value.slice.injEq, Option.some.injEq] at he
 obtain ⟨rfl, -, -⟩ := he
 have e : (⟨g, 0, none⟩ : Addr).add k = ⟨g, k, none⟩ := by
  by_cases h0 : k = 0 <;> simp [Addr.add, h0]
 rw [e] at hc
 obtain ⟨A, c, hv, -, -⟩ := ho.1.cells.open_
 rw [ints_len, up_len] at hv
 exact ⟨A, _, c, _, by rw [hu, hv], rfl, hz, by rw [hc, hv], by rw [<- hv]; exact ho⟩
theorem NW.rows (h : NW w B g n vs nss es ess) : Rows w (.slice (some ⟨g, 0, none⟩) n n) (nss.map up) := by
 refine ⟨vs, h.own.cells, by rw [List.length_map, h.len, h.len'], fun k u zs hu hz => ?_⟩
 refine (h.fam.row k u zs ?_ ?_).ints
 · rw [List.getElem?_append_left (List.getElem?_eq_some_iff.1 hu).1]; exact hu
 · rw [List.getElem?_append_left (List.getElem?_eq_some_iff.1 hz).1]; exact hz
theorem NW.grown (h : NW w B g n vs nss es ess) (hu : vs[k]? = some u) (hz : nss[k]? = some ns) (ho : Own w1 B tN u1 (ints (up ns) ++ [.int .i64 (x : Int)])) (hx : x <= 1000000) (hgr : Grow w w1 u u1) :
  Own w1 B tNL (.slice (some ⟨g, 0, none⟩) n n) vs /\ Fam w1 B tN (vs.set k u1 ++ es) ((addAt x k nss).map up ++ ess) := by
 have hk : k < vs.length := (List.getElem?_eq_some_iff.1 hu).1
 have hkn : k < nss.length := (List.getElem?_eq_some_iff.1 hz).1
 have hr := h.fam.row k u (up ns) (by rw [List.getElem?_append_left hk]; exact hu) (by rw [List.getElem?_append_left (by rw [List.length_map]; exact hkn), List.getElem?_map, hz]; rfl)
 have how : Own w1 B tNL (.slice (some ⟨g, 0, none⟩) n n) vs := h.own.kept hgr.1 (h.own.ne_of_type hr.1 (by decide))
 have hnew : OwnInts w1 B tN u1 (up (ns ++ [x])) := by
  refine ⟨by rw [up_append]; simpa [ints, up] using ho, fun z hz => ?_⟩
  rw [up_append] at hz
  rcases List.mem_append.1 hz with hz | hz
  · exact hr.2 z hz
  · simp [up] at hz; subst hz; unfold In64; omega
 refine ⟨how, ?_⟩
 have hf := h.fam.step (k := k) (by rw [List.getElem?_append_left hk]; exact hu) hnew hgr
 rw [List.set_append, if_pos hk, List.set_append, if_pos (by rw [List.length_map]; exact hkn)] at hf
 rw [addAt_set hz, List.map_set]
 exact hf
theorem NW.grow (h : NW w B g n vs nss es ess) (hu : vs[k]? = some u) (hz : nss[k]? = some ns) (ho : Own w1 B tN u1 (ints (up ns) ++ [.int .i64 (x : Int)])) (hx : x <= 1000000) (hgr : Grow w w1 u u1) :
  (∃ u0, w1.cell? ⟨g, k, none⟩ = some u0) /\ w1.frozen? ⟨g, k, none⟩ = false /\ NW (w1.setCell ⟨g, k, none⟩ u1) B g n (vs.set k u1) (addAt x k nss) es ess := by
 obtain ⟨how, hf⟩ := h.grown hu hz ho hx hgr
 obtain ⟨u0, -, hc, hfr, -, -, hown, hg2⟩ := how.storeAt (List.getElem?_eq_some_iff.1 hu).1 u1
 exact ⟨⟨u0, hc⟩, hfr, hown, by simp [h.len], by rw [addAt_len]; exact h.len', hf.other (v := .slice (some ⟨g, 0, none⟩) n n) hg2 how (by decide)⟩
theorem NW.other (h : NW w B g n vs nss es ess) (hu : es[k]? = some u) (hz : ess[k]? = some zs) : OwnInts w B tN u zs := by
 refine h.fam.row (n + k) u zs ?_ ?_
 · rw [List.getElem?_append_right (by rw [h.len]; omega), h.len, Nat.add_sub_cancel_left]; exact hu
 · rw [List.getElem?_append_right (by rw [List.length_map, h.len']; omega), List.length_map, h.len', Nat.add_sub_cancel_left]; exact hz
theorem NW.snoc (h : NW w B g n vs nss es ess) (hb : Below w.heap.size w w1) (ho : OwnInts w1 w.heap.size tN u zs) (hB : B <= w.heap.size) : NW w1 B g n vs nss (es ++ [u]) (ess ++ [zs]) := by
 have h1 := h.below hb
 refine ⟨h1.own, h.len, h.len', ?_⟩
 rw [<- List.append_assoc, <- List.append_assoc]
 refine h1.fam.snoc (ho.mono hB) fun j u' hj => ?_
 exact h.fam.fresh ho.1.ge j u' hj
end
structure NW2 (w : World) (B g n : Nat) (vs us : List Value) (nss : List (List Nat)) (es : List Value) (ess : List (List Int)) : Prop where
 own : Own w B tNL (.slice (some ⟨g, 0, none⟩) n n) vs
 len : vs.length = n
 lenu : us.length = n
 len' : nss.length = n
 fam : Fam w B tN (us ++ es) (nss.map up ++ ess)
section
variable {w w' w1 : World} {B g n k x : Nat} {vs us es : List Value} {nss : List (List Nat)} {ess : List (List Int)} {u u1 : Value} {ns : List Nat}
end
def nearStep (near : List (List Nat)) (i : Nat) : Nat -> List (List Nat)
 | 0 => near
 | k + 1 => addAt i k (addAt k i near)
theorem nearF_snoc : ∀ (near : List (List Nat)) (ps : List Nat) (i p : Nat), nearF near (ps ++ [p]) i = nearStep (nearF near ps i) (i + ps.length) p
 | near, [], i, 0 => rfl
 | near, [], i, k + 1 => rfl
 | near, 0 :: ps, i, p => by rw [List.cons_append, nearF, nearF, nearF_snoc near ps (i + 1) p, List.length_cons]; congr 1; omega
 | near, (k + 1) :: ps, i, p => by rw [List.cons_append, nearF, nearF, nearF_snoc _ ps (i + 1) p, List.length_cons]; congr 1; omega
theorem parF_len (t : List Nat) : ∀ (ls : List Nat) (i : Nat), (parF t ls i).length = ls.length
 | [], i => rfl
 | l :: ls, i => by rw [parF, List.length_cons, parF_len t ls (i + 1), List.length_cons]
theorem parF_get (t : List Nat) : ∀ (ls : List Nat) (i k l : Nat), ls[k]? = some l -> (parF t ls i)[k]? = some (parN t l (i + k))
 | [], i, k, l, h => by simp at h
 | x :: ls, i, 0, l, h => by simp at h; subst h; rfl
 | x :: ls, i, k + 1, l, h => by
  rw [parF, List.getElem?_cons_succ, parF_get t ls (i + 1) k l (by simpa using h)]
  congr 2; omega
theorem parents_get {t : List Nat} {k l : Nat} (h : t[k]? = some l) : (parents t)[k]? = some (parN t l k) := by
 rw [parents, parF_get t t 0 k l h, Nat.zero_add]
theorem parents_len (t : List Nat) : (parents t).length = t.length := parF_len t t 0
theorem parN_le (t : List Nat) (l : Nat) : ∀ k : Nat, parN t l k <= k
 | 0 => Nat.le_refl _
 | k + 1 => by
  rw [parN]
  cases Nat.beq (t.getD k 0 + 1) l with
  | true => exact Nat.le_refl _
  | false => exact Nat.le_succ_of_le (parN_le t l k)
theorem pzTo_get {t : List Nat} {n k : Nat} (h : k < n) : (pzTo t n)[k]? = some ((parN t (t.getD k 0) k : Int) - 1) := by
 simp [pzTo, h]
def NB (nss : List (List Nat)) (m n : Nat) : Prop := ∀ ns ∈ nss, ns.length <= m /\ ∀ x ∈ ns, x < n
theorem NB.add {nss : List (List Nat)} {m n x i : Nat} (h : NB nss m n) (hx : x < n) : NB (addAt x i nss) (m + 1) n := by
 intro ns hns
 rcases mem_addAt hns with hns | ⟨b, hb, rfl⟩
 · exact ⟨by have := (h ns hns).1; omega, (h ns hns).2⟩
 · refine ⟨by have := (h b hb).1; simp; omega, fun y hy => ?_⟩
   rcases List.mem_append.1 hy with hy | hy
   · exact (h b hb).2 y hy
   · simp at hy; omega
theorem NB.mono {nss : List (List Nat)} {m m' n : Nat} (h : NB nss m n) (hm : m <= m') : NB nss m' n := fun ns hns => ⟨Nat.le_trans (h ns hns).1 hm, (h ns hns).2⟩
theorem NB.nil (k m n : Nat) : NB (List.replicate k []) m n := by
 intro ns hns
 have := List.eq_of_mem_replicate hns
 subst this
 exact ⟨Nat.zero_le _, fun x hx => by simp at hx⟩
theorem near_at {t : List Nat} {j : Nat} (near : List (List Nat)) (hlt : j < t.length) : nearF near ((parents t).take (j + 1)) 0 = nearStep (nearF near ((parents t).take j) 0) j (parN t (t.getD j 0) j) := by
 have htj : t[j]? = some (t[j]'hlt) := List.getElem?_eq_getElem _
 have hg : t.getD j 0 = t[j]'hlt := by simp [List.getD, htj]
 rw [List.take_add_one, parents_get htj, hg]
 show nearF _ (_ ++ [_]) 0 = _
 rw [nearF_snoc, List.length_take, parents_len, Nat.min_eq_left (by omega), Nat.zero_add]
set_option maxHeartbeats 4000000 in
theorem i_nearOf (w : World) (v : Value) (t : List Nat) (ha : Ints w v (up t)) (hn : t.length <= 1000) (hl : ∀ l ∈ t, l <= 1000000) :
  Calls Tryz.prog 203 #[v] w fun e w' => ∃ g vs es ess, e = .returned (.slice (some ⟨g, 0, none⟩) t.length t.length) /\ NW w' w.heap.size g t.length vs (nearN t) es ess /\ NB (nearN t) 2000 t.length /\ Below w.heap.size w w' := by
 have HA := Lib.hid ha
 have HL := Lib.hid hl
 obtain ⟨A, c, rfl, l1, l2, h3⟩ := ha.open_
 rw [up_len] at l1 h3 HA ⊢
 clear ha h3 hl
 go_enter Tryz.func203, Tryz.ntmps203
 go_wp2_with (first
  | (at_make; refine wpList_mk rfl _ _ _ rfl _ _ _ T_nrow t.length _ (by rfl) (by rfl) (by rfl) (by omega) _ ?_; intro w1 hown hb hs1; have HN1 := Lib.hid (NW.made hown); have HB1 := Lib.hid hb; clear hown hb)
  | (go_at_call 223; refine (i_parentsOf _ _ t (HA.out.below HB1.out) hn HL.out).mono ?_; rintro e w2 ⟨x, rfl, hx, hb2⟩; obtain ⟨A5, c5, he5, -, -, -⟩ := hx.ints.open_; rw [pzTo_len] at he5; subst he5; have HN2 := Lib.hid (HN1.out.snoc hb2 hx HB1.out.size); have HB2 := Lib.hid (HB1.out.trans (hb2.mono HB1.out.size)); clear hx hb2))
 generalize hg : w.heap.size = g at HN2 ⊢
 have HG := Lib.hid hg
 have HGE := Lib.hid (show w.heap.size <= g by omega)
 clear HN1
 go_loopw [12] (fun x wr => ∃ (j : Nat) (vs : List Value), j <= t.length /\ x = .int .i64 j /\ NW wr w.heap.size g t.length vs (nearF (List.replicate t.length []) ((parents t).take j) 0) [.slice A5 t.length c5] [pzTo t t.length] /\ NB (nearF (List.replicate t.length []) ((parents t).take j) 0) (2 * j) t.length /\ Below w.heap.size w wr) (fun x _ => t.length - (intOf x).toNat)
 case atStart => exact ⟨0, _, Nat.zero_le _, rfl, by rw [HG.out]; exact HN2.out, NB.nil _ _ _, HB2.out⟩
 case round =>
  obtain ⟨j, vs, hj, rfl, hnw, hnb, hbw⟩ := hrel
  clear HN2
  have HN := Lib.hid hnw
  have HNB := Lib.hid hnb
  have HBW := Lib.hid hbw
  clear hnw hnb hbw
  by_cases hlt : j < t.length
  · obtain ⟨Ax, cx, hx5, -, -, hp5⟩ := (HN.out.other (k := 0) rfl rfl).ints.open_
    rw [pzTo_len] at hp5
    obtain ⟨ap, zp, rfl, hzp, -, hcp⟩ := hp5 j hlt
    simp only [Value.slice.injEq] at hx5
    obtain ⟨rfl, -, rfl⟩ := hx5
    rw [pzTo_get hlt] at hzp
    injection hzp with hzp
    have hji : (j : Int) < (t.length : Int) := by omega
    have HSN := Lib.hid (near_at (List.replicate t.length []) hlt)
    have hPj := parN_le t (t.getD j 0) j
    generalize hPP : parN t (t.getD j 0) j = P at hzp HSN hPj
    generalize hnn : nearF (List.replicate t.length []) ((parents t).take j) 0 = nss at HN HNB HSN
    clear hPP hnn hp5
    cases P with
    | zero =>
     have hz1 : zp = -1 := by omega
     subst hz1
     go_wp2_with fail
     go_roundw
     case rel =>
      refine ⟨j + 1, vs, by omega, by go_num, ?_, ?_, HBW.out⟩
      · rw [HSN.out]; exact HN.out
      · rw [HSN.out]; exact HNB.out.mono (by omega)
     case measure => simp [intOf]; omega
    | succ k =>
     have hz1 : zp = (k : Int) := by omega
     subst hz1
     have hkt : k < t.length := by omega
     have hki : (k : Int) < (t.length : Int) := by omega
     have hk0 : (0 : Int) <= (k : Int) := by omega
     obtain ⟨Aj, mj, cj, nj, huj, hmj, hzj, hcj, hoj⟩ := HN.out.get hlt
     subst hmj
     have HUJ := Lib.hid huj
     have HZJ := Lib.hid hzj
     have HOJ := Lib.hid hoj
     have HLJ := Lib.hid (HNB.out nj (List.mem_of_getElem? hzj))
     have hbs := HBW.out.size
     clear huj hzj hoj hzp
     go_wp2_with (first
      | (at_builtin; refine wpList_app1 T_nat (v := .slice Aj nj.length cj) (vs := ints (up nj)) HOJ.out.1 (by rw [ints_len, up_len]; have := HLJ.out.1; omega) hbs (by rfl) rfl (by rfl) (by rfl) (by rfl) ?_; intro u3 w3 hown3 hgr3; obtain ⟨A3, c3, hu3, -, -⟩ := hown3.cells.open_; rw [List.length_append, List.length_singleton] at hu3; subst hu3; obtain ⟨⟨u0, q1⟩, q2, hn3⟩ := HN.out.grow HUJ.out HZJ.out hown3 (by omega) hgr3; have hb3 := (hgr3.below HBW.out hbs HOJ.out.1.ge).setCell (p := ⟨g, j, none⟩) HGE.out (.slice A3 ((ints (up nj)).length + 1) c3); obtain ⟨Ak, mk, ck, nk, huk, hmk, hzk, hck, hok⟩ := hn3.get hkt; subst hmk; have HN3 := Lib.hid hn3; have HB3 := Lib.hid hb3; have HUK := Lib.hid huk; have HZK := Lib.hid hzk; have HOK := Lib.hid hok; have HNB3 := Lib.hid ((HNB.out.add (x := k) (i := j) hkt)); have HLK := Lib.hid (HNB3.out nk (List.mem_of_getElem? hzk)); have hbs3 := hb3.size; clear hn3 hb3 huk hzk hok hown3 hgr3)
      | (at_builtin; refine wpList_app1n w3.heap.size (by simp) T_nat (v := .slice Ak nk.length ck) (vs := ints (up nk)) HOK.out.1 (by rw [ints_len, up_len]; have := HLK.out.1; omega) hbs3 (by rfl) rfl (by rfl) (by rfl) (by rfl) ?_; intro u5 w5 hown5 hgr5; obtain ⟨A6, c6, hu6, -, -⟩ := hown5.cells.open_; rw [List.length_append, List.length_singleton] at hu6; subst hu6; obtain ⟨⟨u6, q3⟩, q4, hn5⟩ := HN3.out.grow HUK.out HZK.out hown5 (by omega) hgr5; have HB5 := Lib.hid ((hgr5.below HB3.out hbs3 HOK.out.1.ge).setCell (p := ⟨g, k, none⟩) HGE.out (.slice A6 ((ints (up nk)).length + 1) c6)); have HN5 := Lib.hid hn5; clear hn5 hown5 hgr5))
     go_roundw
     case rel =>
      have hf := HN5.out
      rw [show addAt j k (addAt k j nss) = nearStep nss j (k + 1) from rfl] at hf
      have hq := (HNB3.out.add (x := j) (i := k) hlt).mono (m' := 2 * (j + 1)) (by omega)
      rw [show addAt j k (addAt k j nss) = nearStep nss j (k + 1) from rfl] at hq
      rw [<- HSN.out] at hf hq
      exact ⟨j + 1, _, by omega, by go_num, hf, hq, HB5.out⟩
     case measure => simp [intOf]; omega
  · have : j = t.length := by omega
    subst this
    rw [<- parents_len, List.take_length] at HN HNB
    rw [parents_len] at HN HNB
    go_wp2_with fail
    go_ret
    exact ⟨g, vs, _, _, rfl, HN.out, HNB.out.mono (by omega), HBW.out⟩
end Go.Proofs.YtofabikjjkapmaaGreat
namespace Go.Proofs.YtofabikjjkapmaaGreat
def rawO : Nat -> List (List Nat) -> Nat -> Nat -> Option (List Nat)
 | 0, _, _, _ => none
 | f + 1, near, root, fr => match near[root]? with
  | none => none
  | some ns => match mapO (fun n => rawO f near n (root + 1)) (ns.filter fun n => !Nat.beq (n + 1) fr) with
   | none => none
   | some bs => some (rootN bs)
theorem mapO_imp {α β : Type} {g g' : α -> Option β} : ∀ {xs : List α} {ys : List β}, (∀ x ∈ xs, ∀ y, g x = some y -> g' x = some y) -> mapO g xs = some ys -> mapO g' xs = some ys
 | [], ys, _, h => by simpa [mapO] using h
 | x :: xs, ys, hg, h => by
  obtain ⟨y, ys', rfl, hy, h'⟩ := mapO_cons h
  rw [mapO, hg x (by simp) y hy, mapO_imp (fun z hz => hg z (by simp [hz])) h']
theorem mapO_of {α β : Type} {g : α -> Option β} : ∀ {xs : List α} {ys : List β}, ys.length = xs.length -> (∀ (k : Nat) (x : α), xs[k]? = some x -> ∃ y, ys[k]? = some y /\ g x = some y) -> mapO g xs = some ys
 | [], [], _, _ => rfl
 | [], _ :: _, h, _ => by simp at h
 | _ :: _, [], h, _ => by simp at h
 | x :: xs, y :: ys, hl, h => by
  obtain ⟨y', h1, h2⟩ := h 0 x (by simp)
  simp at h1; subst h1
  rw [mapO, h2, mapO_of (by simpa using hl) (fun k z hz => by simpa using h (k + 1) z (by simpa using hz))]
theorem mapO_ex {α β : Type} {g : α -> Option β} : ∀ {xs : List α}, (∀ x ∈ xs, ∃ y, g x = some y) -> ∃ ys, mapO g xs = some ys
 | [], _ => ⟨[], rfl⟩
 | x :: xs, h => by
  obtain ⟨y, hy⟩ := h x (by simp)
  obtain ⟨ys, hys⟩ := mapO_ex (xs := xs) fun z hz => h z (by simp [hz])
  exact ⟨y :: ys, by rw [mapO, hy, hys]⟩
theorem addLast_snoc (x : Nat) : ∀ (out : List (List Nat)) (b : List Nat), addLast x (out ++ [b]) = out ++ [b ++ [x]]
 | [], b => rfl
 | [a], b => rfl
 | a :: c :: out, b => by
  have := addLast_snoc x (c :: out) b
  rw [List.cons_append] at this
  rw [List.cons_append, List.cons_append, addLast, this]
  rfl
theorem brF_append : ∀ (out : List (List Nat)) (a c : List Nat), brF out (a ++ c) = match brF out a with
  | none => none
  | some o => brF o c
 | out, [], c => rfl
 | out, x :: a, c => by
  rw [List.cons_append, brF, brF]
  cases brStep out x with
  | none => rfl
  | some o => exact brF_append o a c
theorem brF_rest : ∀ (out : List (List Nat)) (b c : List Nat), (∀ l ∈ c, 1 <= l) -> brF (out ++ [b]) (bump c) = some (out ++ [b ++ c])
 | out, b, [], _ => by simp [bump, brF]
 | out, b, x :: c, h => by
  obtain ⟨x', rfl⟩ : ∃ x', x = x' + 1 := ⟨x - 1, by have := h x (by simp); omega⟩
  rw [bump, brF]
  have hs : brStep (out ++ [b]) (x' + 1 + 1) = some (out ++ [b ++ [x' + 1]]) := by
   have := addLast_snoc (x' + 1) out b
   cases ho : out ++ [b] with
   | nil => simp at ho
   | cons a os => rw [ho] at this; rw [brStep, this]
  rw [hs]
  have := brF_rest out (b ++ [x' + 1]) c fun l hl => h l (by simp [hl])
  simpa using this
theorem lvlF_pos : ∀ {p : Nat} {t : List Nat}, lvlF p t = true -> ∀ l ∈ t, 1 <= l
 | p, [], _ => by simp
 | p, x :: t, h => by
  rw [lvlF] at h
  cases h1 : Nat.ble 1 x with
  | false => rw [h1] at h; cases h
  | true =>
   cases h2 : Nat.ble x (p + 1) with
   | false => rw [h1, h2] at h; cases h
   | true =>
    rw [h1, h2] at h
    intro l hl
    rcases List.mem_cons.1 hl with rfl | hl
    · exact Nat.le_of_ble_eq_true h1
    · exact lvlF_pos h l hl
theorem lvl_cons {t : List Nat} (h : lvl t = true) : ∃ c, t = 0 :: c /\ lvlF 0 c = true := by
 cases t with
 | nil => cases h
 | cons a c =>
  rw [lvl] at h
  cases h1 : Nat.beq a 0 with
  | false => rw [h1] at h; cases h
  | true => rw [h1] at h; have := Nat.eq_of_beq_eq_true h1; subst this; exact ⟨c, rfl, h⟩
theorem brF_bumps : ∀ (out bs : List (List Nat)), (∀ b ∈ bs, lvl b = true) -> brF out (bumps bs) = some (out ++ bs)
 | out, [], _ => by simp [bumps, brF]
 | out, b :: bs, h => by
  obtain ⟨c, rfl, hc⟩ := lvl_cons (h b (by simp))
  rw [bumps, brF_append, bump, brF]
  have : brStep out (0 + 1) = some (out ++ [[0]]) := rfl
  rw [this]
  simp only
  rw [brF_rest out [0] c (lvlF_pos hc)]
  simp only
  rw [brF_bumps _ bs fun x hx => h x (by simp [hx])]
  simp
theorem brO_root {bs : List (List Nat)} (h : ∀ b ∈ bs, lvl b = true) : brO (rootN bs) = some bs := by
 rw [rootN, brO, brF_bumps [] bs h]; rfl
theorem lvlF_bump : ∀ {p : Nat} {t d : List Nat}, lvlF p t = true -> (∀ q, lvlF q d = true) -> lvlF (p + 1) (bump t ++ d) = true
 | p, [], d, _, hd => hd _
 | p, x :: t, d, h, hd => by
  rw [lvlF] at h
  cases h1 : Nat.ble 1 x with
  | false => rw [h1] at h; cases h
  | true =>
   cases h2 : Nat.ble x (p + 1) with
   | false => rw [h1, h2] at h; cases h
   | true =>
    rw [h1, h2] at h
    rw [bump, List.cons_append, lvlF, Nat.ble_eq_true_of_le (by omega), Nat.ble_eq_true_of_le (by have := Nat.le_of_ble_eq_true h2; omega)]
    exact lvlF_bump h hd
theorem lvlF_bumps : ∀ {bs : List (List Nat)}, (∀ b ∈ bs, lvl b = true) -> ∀ q, lvlF q (bumps bs) = true
 | [], _, q => rfl
 | b :: bs, h, q => by
  obtain ⟨c, rfl, hc⟩ := lvl_cons (h b (by simp))
  rw [bumps, bump, List.cons_append, lvlF]
  simp only [Nat.zero_add, Nat.ble_eq_true_of_le (Nat.le_refl 1), Nat.ble_eq_true_of_le (show 1 <= q + 1 by omega), cond_true]
  exact lvlF_bump hc (lvlF_bumps fun x hx => h x (by simp [hx]))
theorem lvl_root {bs : List (List Nat)} (h : ∀ b ∈ bs, lvl b = true) : lvl (rootN bs) = true := by
 rw [rootN, lvl]; exact lvlF_bumps h 0
theorem canO_9 {t : List Nat} (ht : lvl t = true) (hl : t.length <= 8) : canO 8 t = canO 9 t := by
 have h := lev8 (p := fun t => match canO 8 t, canO 9 t with | some a, some b => eqN a b | _, _ => false) (by decide +kernel) ht hl
 cases h8 : canO 8 t with
 | none => rw [h8] at h; cases h
 | some a =>
  cases h9 : canO 9 t with
  | none => rw [h8, h9] at h; cases h
  | some b => rw [h8, h9] at h; rw [eqN_iff.1 h]
theorem canO_rootN {bs : List (List Nat)} {cs : List (List Nat)} (h : ∀ b ∈ bs, lvl b = true) (hm : mapO (canO 8) bs = some cs) : canO 9 (rootN bs) = some (rootN (srtD cs)) := by
 rw [canO, brO_root h]
 simp only
 rw [hm]
theorem len_bumps_mem {b : List Nat} {bs : List (List Nat)} (h : b ∈ bs) : b.length + 1 <= (rootN bs).length := by
 rw [rootN, List.length_cons, bumps_len]
 have := brLen_memb h
 omega
theorem tfO_raw : ∀ {f : Nat} {near : List (List Nat)} {root fr : Nat} {q : List Nat}, rawO f near root fr = some q -> q.length <= 8 -> lvl q = true /\ tfO f near root fr = canO 9 q
 | 0, near, root, fr, q, h, _ => by cases h
 | f + 1, near, root, fr, q, h, h8 => by
  rw [rawO] at h
  rw [tfO]
  cases hn : near[root]? with
  | none => rw [hn] at h; cases h
  | some ns =>
   rw [hn] at h
   simp only at h ⊢
   cases hm : mapO (fun n => rawO f near n (root + 1)) (ns.filter fun n => !Nat.beq (n + 1) fr) with
   | none => rw [hm] at h; cases h
   | some raws =>
    rw [hm] at h
    simp only [Option.some.injEq] at h
    subst h
    have hall : ∀ b ∈ raws, lvl b = true /\ b.length <= 8 /\ ∃ x ∈ (ns.filter fun n => !Nat.beq (n + 1) fr), rawO f near x (root + 1) = some b := by
     intro b hb
     obtain ⟨x, hx, hxb⟩ := mapO_all hm b hb
     have hl := len_bumps_mem hb
     exact ⟨(tfO_raw hxb (by omega)).1, by omega, x, hx, hxb⟩
    have hlv : ∀ b ∈ raws, lvl b = true := fun b hb => (hall b hb).1
    refine ⟨lvl_root hlv, ?_⟩
    obtain ⟨cs, hcs⟩ := mapO_ex (g := canO 9) (xs := raws) fun b hb => by
     obtain ⟨r, hr, -, -⟩ := canO_8 (hall b hb).1 (hall b hb).2.1
     exact ⟨r, hr⟩
    have hm2 : mapO (fun n => tfO f near n (root + 1)) (ns.filter fun n => !Nat.beq (n + 1) fr) = some cs := by
     refine mapO_of (by rw [mapO_len hcs, mapO_len hm]) fun k x hx => ?_
     obtain ⟨b, hb, hxb⟩ := mapO_get hm k x hx
     obtain ⟨c, hc, hbc⟩ := mapO_get hcs k b hb
     have hbm := List.mem_of_getElem? hb
     exact ⟨c, hc, by rw [(tfO_raw hxb (hall b hbm).2.1).2, hbc]⟩
    rw [hm2]
    simp only
    have h1 : mapO (canO 8) raws = some cs := mapO_imp (fun b hb y hy => by rw [canO_9 (hall b hb).1 (hall b hb).2.1]; exact hy) hcs
    have hcl : ∀ c ∈ cs, lvl c = true /\ canO 8 c = some c := by
     intro c hc
     obtain ⟨b, hb, hbc⟩ := mapO_all hcs c hc
     obtain ⟨r, hr, h2, h3⟩ := canO_8 (hall b hb).1 (hall b hb).2.1
     rw [hbc] at hr
     injection hr with hr
     subst hr
     exact ⟨h2, by rw [canO_9 h2 (by rw [canO_len hbc]; exact (hall b hb).2.1)]; exact h3⟩
    have h2 : mapO (canO 8) cs = some cs := mapO_of rfl fun k c hc => ⟨c, hc, (hcl c (List.mem_of_getElem? hc)).2⟩
    rw [canO_rootN hlv h1, canO_rootN (fun c hc => (hcl c hc).1) h2]
end Go.Proofs.YtofabikjjkapmaaGreat
