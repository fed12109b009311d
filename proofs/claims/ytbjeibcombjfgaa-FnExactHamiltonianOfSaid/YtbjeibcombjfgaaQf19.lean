/- Walks: slices.IndexFunc, slices.DeleteFunc at lists of trees of one's own, with a predicate that may make memory. | Walk: treesOf of the program. -/
import Derived.Test.YtbjeibcombjfgaaQf12
import Derived.Test.YtbjeibcombjfgaaQf8
import Derived.Test.YtbjeibcombjfgaaQf7
import Derived.Lib.SliceRun
import Derived.Laws.IdiomCopy
import Derived.Test.YtbjeibcombjfgaaQf13
import Derived.BigQuiet
import Derived.Deep.QuietTactic
set_option maxRecDepth 100000
set_option linter.unusedVariables false
set_option linter.unusedSimpArgs false
namespace Go.Proofs.Ytbjeibcombjfgaa
open Go.RowKit

/-- a predicate on trees -/
def PredT (F : Nat) (p : List Nat → Bool) (bs : List (List Nat)) : Prop :=
  ∀ (W : World) (u : Value) (q : List Nat), q ∈ bs → Ints W u (up q) → Calls Try.prog F #[u] W fun e w' => e = .returned (.bool (p q)) ∧ Below W.heap.size W w'

theorem lib_IndexTrees (w : World) (v : Value) (bs : List (List Nat)) (g : Nat) (p : List Nat → Bool) (ha : Rows w v (bs.map up))
    (hcf : ∀ (args : Array Value) (w : World), Sem.run Try.prog (callFunc g args) w = .ok (.enter g args) w) (hp : PredT g p bs) :
    Calls Try.prog 184 #[v, .func (.func g) #[] #[]] w fun e w' => e = .returned (.int .i64 (idxF p bs)) ∧ Below w.heap.size w w' := by
  obtain ⟨A, c, rfl, h1, h2, h3⟩ := ha.open_
  rw [List.length_map] at h1 h3 ⊢
  clear ha
  have H3 := Lib.hid h3
  have HP := Lib.hid hp
  clear h3 hp
  go_enter Try.func184, Try.ntmps184
  go_wp2_with fail
  go_loopw [8] (fun i wr => ∃ k : Nat, k ≤ bs.length ∧ i = .int .i64 k ∧ Hid (∀ i y, i < k → bs[i]? = some y → p y = false) ∧ Below w.heap.size w wr) (fun i _ => bs.length - (intOf i).toNat)
  case atStart => exact ⟨0, Nat.zero_le _, rfl, fun i y h => by omega, Below.refl _ _⟩
  case round =>
    obtain ⟨k, hk, rfl, hI, hb⟩ := hrel
    have HB := Lib.hid hb
    clear hb
    by_cases hlt : k < bs.length
    · obtain ⟨ad, u, zs, rfl, hz, hu, hc0⟩ := H3.out k hlt
      have hc : wr.cell? (ad.add k) = some u := by
        rw [HB.out.cell (by rw [block_add]; have := World.block_lt_of_cell? w _ hc0; rwa [block_add] at this)]; exact hc0
      have hbk : bs[k]? = some (bs[k]'hlt) := List.getElem?_eq_getElem _
      have hzb : zs = up (bs[k]'hlt) := by rw [List.getElem?_map, hbk] at hz; injection hz with hz; exact hz.symm
      subst hzb
      have HZ := Lib.hid hbk
      have HQ := Lib.hid (HP.out wr u _ (List.mem_of_getElem? hbk) (hu.below HB.out))
      generalize bs[k]'hlt = q at HZ HQ
      clear hz hu hc0 hbk
      go_wp2_with fail
      refine HQ.out.mono ?_
      rintro e w' ⟨rfl, hb2⟩
      have HB2 := Lib.hid (HB.out.trans (hb2.mono HB.out.size))
      clear hb2 hc
      go_wp2_with fail
      · have hpz : p q = true := by assumption
        go_ret
        exact ⟨ret_int (idxF_hit hI.out HZ.out hpz).symm, HB2.out⟩
      · have hpz : p q = false := by assumption
        go_roundw
        case rel =>
          refine ⟨k + 1, by omega, by go_num, fun i y hi hy => ?_, HB2.out⟩
          by_cases e : i = k
          · subst e
            rw [HZ.out] at hy
            cases hy
            exact hpz
          · exact hI.out i y (by omega) hy
        case measure => simp [intOf]; omega
    · have : k = bs.length := by omega
      subst this
      go_wp2_with fail
      go_ret
      exact ⟨ret_int (idxF_miss fun i y hi hy => hI.out i y hi hy).symm, HB.out⟩

/- PLAIN -/
theorem idxF_cases {α : Type} (p : α → Bool) (l : List α) : (idxF p l = -1 ∧ ∀ x ∈ l, p x = false) ∨ ∃ (i : Nat) (x : α), idxF p l = (i : Int) ∧ l[i]? = some x ∧ p x = true ∧ ∀ (j : Nat) (y : α), j < i → l[j]? = some y → p y = false := by
  unfold idxF
  cases h : l.findIdx? p with
  | none =>
    left
    refine ⟨rfl, fun x hx => ?_⟩
    have := List.findIdx?_eq_none_iff.1 h x hx
    simpa using this
  | some i =>
    right
    obtain ⟨hi, h1, h2⟩ := List.findIdx?_eq_some_iff_getElem.1 h
    refine ⟨i, l[i], rfl, List.getElem?_eq_getElem _, h1, fun j y hj hy => ?_⟩
    have := h2 j hj
    obtain ⟨hjl, rfl⟩ := List.getElem?_eq_some_iff.1 hy
    simpa using this

/-- what DeleteFunc has done: the first k are those that stay of the first j; from j on nothing has turned -/
structure DelS (q : List Nat → Bool) (bs xs : List (List Nat)) (vs us : List Value) (k j : Nat) : Prop where
  lenx : xs.length = bs.length
  lenu : us.length = bs.length
  kj : k < j
  jn : j ≤ bs.length
  pre : xs.take k = (bs.take j).filter q
  suf : xs.drop j = bs.drop j
  sub : (us.take k ++ us.drop j).Sublist vs
theorem DelS.at_ {q : List Nat → Bool} {bs xs : List (List Nat)} {vs us : List Value} {k j : Nat} (h : DelS q bs xs vs us k j) (hj : j < bs.length) : xs[j]? = bs[j]? := by
  have := congrArg (fun l => l[0]?) h.suf
  simpa [List.getElem?_drop] using this
theorem DelS.skip {q : List Nat → Bool} {bs xs : List (List Nat)} {vs us : List Value} {k j : Nat} {b : List Nat} (h : DelS q bs xs vs us k j) (hb : bs[j]? = some b) (hq : q b = false) : DelS q bs xs vs us k (j + 1) := by
  have hj := (List.getElem?_eq_some_iff.1 hb).1
  refine ⟨h.lenx, h.lenu, by have := h.kj; omega, hj, ?_, ?_, ?_⟩
  · rw [List.take_add_one, hb, List.filter_append, h.pre]; simp [hq]
  · rw [← List.drop_drop, h.suf, List.drop_drop]
  · refine List.Sublist.trans ?_ h.sub
    have : us.drop j = us[j]'(by rw [h.lenu]; exact hj) :: us.drop (j + 1) := List.drop_eq_getElem_cons _
    rw [this]
    exact List.Sublist.append_left (List.sublist_cons_self _ _) _
theorem DelS.take {q : List Nat → Bool} {bs xs : List (List Nat)} {vs us : List Value} {k j : Nat} {b : List Nat} {u : Value} (h : DelS q bs xs vs us k j) (hb : bs[j]? = some b) (hu : us[j]? = some u) (hq : q b = true) : DelS q bs (xs.set k b) vs (us.set k u) (k + 1) (j + 1) := by
  have hj := (List.getElem?_eq_some_iff.1 hb).1
  have hkj := h.kj
  have hk : k < bs.length := by omega
  refine ⟨by rw [List.length_set]; exact h.lenx, by rw [List.length_set]; exact h.lenu, by omega, hj, ?_, ?_, ?_⟩
  · rw [List.take_add_one, List.getElem?_set_self (by rw [h.lenx]; exact hk), List.take_set_of_le (Nat.le_refl _), h.pre, List.take_add_one, hb, List.filter_append]
    simp [hq]
  · rw [List.drop_set_of_lt (by omega), ← List.drop_drop, h.suf, List.drop_drop]
  · rw [List.take_add_one, List.getElem?_set_self (by rw [h.lenu]; exact hk), List.take_set_of_le (Nat.le_refl _), List.drop_set_of_lt (by omega)]
    have : us.drop j = u :: us.drop (j + 1) := by
      rw [List.drop_eq_getElem_cons (by rw [h.lenu]; exact hj)]
      rw [(List.getElem?_eq_some_iff.1 hu).2]
    have hs := h.sub
    rw [this] at hs
    simpa using hs

theorem own_prefix {w : World} {B : Nat} {e : TypeId} {g cap k : Nat} {vs : List Value} (h : Own w B e (.slice (some ⟨g, 0, none⟩) vs.length cap) vs) (hk : k ≤ vs.length) : Own w B e (.slice (some ⟨g, 0, none⟩) k cap) (vs.take k) := by
  rcases h.cases with ⟨he, _⟩ | ⟨g', cap', cur, he, h1, h2, h3, h4, h5, h6, h7⟩
  · cases he
  simp only [Value.slice.injEq, Option.some.injEq, Addr.mk.injEq, and_true, true_and] at he
  obtain ⟨rfl, rfl⟩ := he
  have hl : (vs.take k).length = k := by rw [List.length_take]; omega
  unfold Own
  rw [hl]
  refine ⟨by rw [hl]; omega, .inr ⟨g, cap, cur, rfl, h1, h3, by omega, h5, by simpa using h6, ?_⟩⟩
  rw [Nat.mul_one, ← h7, List.take_take, Nat.min_eq_left hk]
/-- the cells behind k are cleared -/
theorem own_cleared {B : Nat} {e : TypeId} {g cap : Nat} : ∀ (zs : List Value) (o : Nat) (w : World) (vs : List Value), Own w B e (.slice (some ⟨g, 0, none⟩) vs.length cap) vs → o + zs.length ≤ vs.length →
    ∃ vs', vs'.length = vs.length ∧ vs'.take o = vs.take o ∧ Own (w.setCells g o zs) B e (.slice (some ⟨g, 0, none⟩) vs.length cap) vs' ∧ w.grownBy (w.setCells g o zs) (some g)
  | [], o, w, vs, h, _ => ⟨vs, rfl, rfl, h, World.grownBy.refl _ _⟩
  | z :: zs, o, w, vs, h, hl => by
    simp at hl
    obtain ⟨u0, -, -, -, -, -, h1, hg⟩ := h.storeAt (k := o) (by omega) z
    have e1 : (vs.set o z).length = vs.length := List.length_set
    rw [← e1] at h1
    obtain ⟨vs', h2, h3, h4, h5⟩ := own_cleared zs (o + 1) _ _ h1 (by rw [e1]; omega)
    refine ⟨vs', by rw [h2, e1], ?_, by rw [← e1]; exact h4, hg.trans h5⟩
    have := congrArg (List.take o) h3
    rw [List.take_take, List.take_take, Nat.min_eq_left (by omega)] at this
    rw [this, List.take_set_of_le (Nat.le_refl _)]

theorem sliced_from {g k n cap : Nat} (hk : k < cap) : sliced (some ⟨g, 0, none⟩) k n cap 1 = .slice (some ⟨g, k, none⟩) (n - k) (cap - k) := by
  have hne : ¬ cap = k := by omega
  simp [sliced, hne, addr_add]
theorem sliced_to {g k n cap : Nat} (hk : 0 < cap) : sliced (some ⟨g, 0, none⟩) 0 k cap 1 = .slice (some ⟨g, 0, none⟩) k cap := by
  have hne : ¬ cap = 0 := by omega
  simp [sliced, hne, addr_add]

set_option maxHeartbeats 4000000 in
theorem lib_DeleteTrees (w : World) (B : Nat) (v : Value) (bs : List (List Nat)) (F : Nat) (p : List Nat → Bool) (ha : LA w B v (bs.map up)) (hn : bs.length ≤ 1000) (hB : B ≤ w.heap.size)
    (hcf : ∀ (args : Array Value) (w : World), Sem.run Try.prog (callFunc F args) w = .ok (.enter F args) w) (hp : PredT F p bs) :
    Calls Try.prog 138 #[v, .func (.func F) #[] #[]] w fun e w' => ∃ x, e = .returned x ∧ LA w' B x ((bs.filter fun q => !p q).map up) ∧ Below B w w' := by
  have HP := Lib.hid hp
  obtain ⟨vs, hown, hrr, hap⟩ := ha
  have hvl : vs.length = bs.length := by rw [hrr.1, List.length_map]
  obtain ⟨A, c, rfl, -, -⟩ := hown.cells.open_
  rw [hvl] at hown ⊢
  have HA := Lib.hid (show LA w B (.slice A bs.length c) (bs.map up) from ⟨vs, hown, hrr, hap⟩)
  have hix := lib_IndexTrees w _ bs F p HA.out.rows hcf hp
  rcases idxF_cases p bs with ⟨hi, hall⟩ | ⟨i, b, hi, hb, hpb, hbefore⟩
  · rw [hi] at hix
    have HIX := Lib.hid hix
    have HF := Lib.hid (show (bs.filter fun q => !p q) = bs from List.filter_eq_self.2 fun x hx => by simp [hall x hx])
    rw [HF.out]
    clear hix hi hall hown hrr hap hp hvl
    go_enter Try.func138, Try.ntmps138
    go_wp2_with (go_at_call 184; refine HIX.out.mono ?_; rintro e w1 ⟨rfl, hb1⟩; have HB1 := Lib.hid hb1; clear hb1)
    go_ret
    exact ⟨_, rfl, HA.out.below HB1.out, HB1.out.mono hB⟩
  · rw [hi] at hix
    have HIX := Lib.hid hix
    have hil := (List.getElem?_eq_some_iff.1 hb).1
    obtain ⟨g, rfl, hcap, hcapm⟩ : ∃ g, A = some ⟨g, 0, none⟩ ∧ bs.length ≤ c ∧ c ≤ 9223372036854775807 := by
      rcases hown.cases with ⟨_, hv⟩ | ⟨g, cap, cur, he, _, _, _, h4, h5, _⟩
      · rw [hv] at hvl; simp at hvl; omega
      · rw [hvl] at he h4
        simp only [Value.slice.injEq] at he
        obtain ⟨rfl, -, rfl⟩ := he
        exact ⟨g, rfl, h4, by simpa [maxLen] using h5⟩
    have HD0 := Lib.hid (show DelS (fun q => !p q) bs bs vs vs i (i + 1) from ⟨rfl, hvl, by omega, hil, by
        rw [List.take_add_one, hb, List.filter_append]
        have : (bs.take i).filter (fun q => !p q) = bs.take i := List.filter_eq_self.2 fun x hx => by
          obtain ⟨j, hj, rfl⟩ := List.getElem_of_mem hx
          have hji : j < i := by rw [List.length_take] at hj; omega
          rw [List.getElem_take]
          simp [hbefore j _ hji (List.getElem?_eq_getElem _)]
        rw [this]; simp [hpb], rfl, by
        have h1 : vs.take i ++ vs.drop (i + 1) = vs.eraseIdx i := by rw [List.eraseIdx_eq_take_drop_succ]
        rw [h1]
        exact List.eraseIdx_sublist _ _⟩)
    have HO := Lib.hid hown
    have HRR := Lib.hid hrr
    have HAP := Lib.hid hap
    have hsl1 : ∀ (k : Nat) (W : World), k < bs.length → (Instr.slice 24 (.slice (some ⟨g, 0, none⟩) bs.length c) (some (.int .i64 (k : Int))) none none).run Try.prog W = .ok (.slice (some ⟨g, k, none⟩) (bs.length - k) (c - k)) W := fun k W hk => by
      rw [sl_from Try.underlying24 sizeL W _ _ _ k _ rfl (by omega), sliced_from (by omega)]
    have hsl2 : ∀ (k : Nat) (W : World), k < bs.length → (Instr.slice 24 (.slice (some ⟨g, 0, none⟩) bs.length c) none (some (.int .i64 (k : Int))) none).run Try.prog W = .ok (.slice (some ⟨g, 0, none⟩) k c) W := fun k W hk => by
      rw [sl_to Try.underlying24 sizeL W _ _ _ k _ rfl (by omega), sliced_to (n := bs.length) (by omega)]
    have HS1 := Lib.hid hsl1
    have HS2 := Lib.hid hsl2
    have hw1 : IntKind.i64.wrap ((i : Int) + 1) = (i : Int) + 1 := IntWalk.i64_in _ (by omega)
    have hine : ((i : Int) == -1) = false := by first | (simp; done) | (simp; omega)
    clear hix hi hb hpb hbefore hown hrr hap hsl1 hsl2 hvl hp
    go_enter Try.func138, Try.ntmps138
    go_wp2_with (go_at_call 184; refine HIX.out.mono ?_; rintro e w1 ⟨rfl, hb1⟩; have HB1 := Lib.hid hb1; clear hb1)
    go_loopw [5, 6] (fun iv jv wr => ∃ (k j : Nat) (xs : List (List Nat)) (us : List Value), iv = .int .i64 k ∧ jv = .int .i64 j ∧ DelS (fun q => !p q) bs xs vs us k j ∧ Own wr B tL (.slice (some ⟨g, 0, none⟩) bs.length c) us ∧ RR wr B us (xs.map up) ∧ Below B w wr) (fun _ jv _ => bs.length - (intOf jv).toNat)
    case atStart => exact ⟨i, i + 1, bs, vs, rfl, by go_num, HD0.out, HO.out.below HB1.out, HRR.out.below HB1.out, HB1.out.mono hB⟩
    case round =>
      obtain ⟨k, j, xs, us, rfl, rfl, hd, ho, hr, hbw⟩ := hrel
      clear HO HRR HD0 hw1 hine
      have HD := Lib.hid hd
      have HO := Lib.hid ho
      have HRR := Lib.hid hr
      have HBW := Lib.hid hbw
      have hkj := hd.kj
      have hjn := hd.jn
      clear hd ho hr hbw
      by_cases hlt : j < bs.length
      · have hbj : bs[j]? = some (bs[j]'hlt) := List.getElem?_eq_getElem _
        have huj : us[j]? = some (us[j]'(by rw [HD.out.lenu]; exact hlt)) := List.getElem?_eq_getElem _
        have hrow := HRR.out.2 j _ (up (bs[j]'hlt)) huj (by rw [List.getElem?_map, HD.out.at_ hlt, hbj]; rfl)
        obtain ⟨u0, hu0, hc, -, -, -, -, -⟩ := HO.out.storeAt (k := j) (by rw [HD.out.lenu]; exact hlt) (.bool true)
        rw [huj] at hu0
        injection hu0 with hu0
        subst hu0
        have HUJ := Lib.hid huj
        have HBJ := Lib.hid hbj
        have HPC := Lib.hid (HP.out wr _ _ (List.mem_of_getElem? hbj) hrow.ints)
        obtain ⟨A5, c5, he5, -, -, -⟩ := hrow.ints.open_
        rw [up_len] at he5
        have HROW := Lib.hid hrow
        generalize us[j]'(by rw [HD.out.lenu]; exact hlt) = u at HUJ hc HPC HROW he5
        generalize bs[j]'hlt = b at HBJ HPC HROW he5
        subst he5
        have hBr : B ≤ wr.heap.size := by have h1 := HO.out.ge g rfl; have h2 := HO.out.lt g rfl; omega
        have hji : (j : Int) < (bs.length : Int) := by omega
        have hki : (k : Int) < (bs.length : Int) := by omega
        have hk0 : (0 : Int) ≤ (k : Int) := by omega
        have hj0 : (0 : Int) ≤ (j : Int) := by omega
        clear hrow huj hbj
        cases hpb : p b with
        | true =>
          rw [hpb] at HPC
          have HNX := Lib.hid (HD.out.skip HBJ.out (by simp [hpb]))
          clear hpb
          go_wp2_with fail
          refine HPC.out.mono ?_
          rintro e w2 ⟨rfl, hb2⟩
          have HB2 := Lib.hid hb2
          clear hb2
          go_wp2_with fail
          go_roundw
          case rel => exact ⟨k, j + 1, xs, us, rfl, by go_num, HNX.out, HO.out.below HB2.out, HRR.out.below HB2.out, HBW.out.trans (HB2.out.mono hBr)⟩
          case measure => simp [intOf]; omega
        | false =>
          rw [hpb] at HPC
          have HNX := Lib.hid (HD.out.take HBJ.out HUJ.out (by simp [hpb]))
          clear hpb
          go_wp2_with fail
          refine HPC.out.mono ?_
          rintro e w2 ⟨rfl, hb2⟩
          obtain ⟨⟨z0, q0⟩, q1, hst, hrs⟩ := RR.store (k := k) (HO.out.below hb2) (HRR.out.below hb2) (by rw [HD.out.lenu]; omega) (HROW.out.below hb2)
          have HST := Lib.hid hst
          have HRS := Lib.hid hrs
          have HB2 := Lib.hid ((HBW.out.trans (hb2.mono hBr)).setCell (p := ⟨g, k, none⟩) (HO.out.ge g rfl) (.slice A5 b.length c5))
          clear hb2 hst hrs
          go_wp2_with fail
          go_roundw
          case rel => exact ⟨k + 1, j + 1, _, _, by go_num, by go_num, HNX.out, HST.out, by rw [List.map_set]; exact HRS.out, HB2.out⟩
          case measure => simp [intOf]; omega
      · have hje : j = bs.length := by omega
        have hkn : k < bs.length := by omega
        have hk0 : (0 : Int) ≤ (k : Int) := by omega
        have hs1 := HS1.out k wr hkn
        have hcells : ∀ t, t < bs.length - k → (wr.cell? ⟨g, k + t, none⟩).isSome = true ∧ wr.frozen? ⟨g, k + t, none⟩ = false := fun t ht => by
          obtain ⟨u0, -, hc, hf, -⟩ := HO.out.storeAt (k := k + t) (by rw [HD.out.lenu]; omega) (.bool true)
          exact ⟨by rw [hc]; rfl, hf⟩
        have hcl : ∀ ty, (Builtin.clear_ #[24] ty #[.slice (some ⟨g, k, none⟩) (bs.length - k) (c - k)]).run Try.prog wr = .ok (.tuple #[]) (wr.setCells g k (List.replicate (bs.length - k) (.slice none 0 0))) := fun ty =>
          Lib.run_clear_slice wr _ _ ty _ Try.underlying24 (fun W => by kernel_rfl) rfl rfl g k _ _ (by omega) (fun t ht => (hcells t ht).1) (fun t ht => (hcells t ht).2)
        have hol := HO.out
        rw [← HD.out.lenu] at hol
        obtain ⟨us', hu1, hu2, hu3, hu4⟩ := own_cleared (List.replicate (bs.length - k) (.slice none 0 0)) k wr us hol (by rw [List.length_replicate, HD.out.lenu]; omega)
        have HU3 := Lib.hid (own_prefix (by rw [hu1]; exact hu3) (k := k) (by rw [hu1, HD.out.lenu]; omega))
        rw [hu2] at HU3
        have HU4 := Lib.hid hu4
        have hs2 := HS2.out k (wr.setCells g k (List.replicate (bs.length - k) (.slice none 0 0))) hkn
        have HJE := Lib.hid hje
        have hlt' : ¬ ((j : Int) < (bs.length : Int)) := by omega
        have HB4 := Lib.hid (HBW.out.grown hu4 (by have h1 := HO.out.ge g rfl; have h2 := HO.out.lt g rfl; omega) (fun b hb => HO.out.ge b hb))
        have HR4 := Lib.hid (HRR.out.other (v := .slice (some ⟨g, 0, none⟩) bs.length c) hu4 HO.out (by decide))
        clear hcells hol hu1 hu2 hu3 hu4 hje
        generalize (wr.setCells g k (List.replicate (bs.length - k) (Value.slice none 0 0))) = w9 at HU3 HU4 hs2 hcl HB4 HR4
        go_wp2_with fail
        go_ret
        refine ⟨_, rfl, ⟨us.take k, HU3.out, ?_, ?_⟩, HB4.out⟩
        · have h1 := HR4.out.take k
          rw [← List.map_take, HD.out.pre, HJE.out, List.take_length] at h1
          exact h1
        · exact (List.Pairwise.sublist ((List.sublist_append_left _ _).trans HD.out.sub) HAP.out)
end Go.Proofs.Ytbjeibcombjfgaa

set_option maxRecDepth 100000
set_option linter.unusedVariables false
set_option linter.unusedSimpArgs false
namespace Go.Proofs.Ytbjeibcombjfgaa
open Go.RowKit

def lenV (v : Value) : Nat := match v with
  | .slice _ n _ => n
  | _ => 0

theorem RR.keptAp {w w' : World} {B : Nat} {vs : List Value} {xss : List (List Int)} {v : Value} (h : RR w B vs xss) (hg : w.grownBy w' v.ownBlock) (ha : ∀ u ∈ vs, Apart u v) : RR w' B vs xss :=
  ⟨h.1, fun k u zs hu hz => (h.2 k u zs hu hz).kept hg (ha u (List.mem_of_getElem? hu))⟩

set_option maxHeartbeats 8000000 in
theorem i_treesOf (w : World) (n : Nat) (h1 : 1 ≤ n) (h8 : n ≤ 8) :
    Calls Try.prog 92 #[.int .i64 n] w fun e w' => ∃ x, e = .returned x ∧ LA w' w.heap.size x ((treesN n).map up) ∧ Below w.heap.size w w' := by
  obtain ⟨hlen, hall⟩ := treesN_at h1 h8
  have HLEN := Lib.hid hlen
  have HALL := Lib.hid hall
  clear hlen hall
  have OT := Lib.hid (show OwnInts ((w.alloc (.cells #[] tI)).alloc (.cells #[] tL)) w.heap.size tI (.slice (some ⟨w.heap.size, 0, none⟩) 0 0) [] from ⟨(own_lit w tI [] (by simp [maxLen])).alloc _, fun z hz => by simp at hz⟩)
  have OO := Lib.hid (show Own ((w.alloc (.cells #[] tI)).alloc (.cells #[] tL)) w.heap.size tL (.slice (some ⟨w.heap.size + 1, 0, none⟩) 0 0) [] from by
    have h := own_lit (w.alloc (.cells #[] tI)) tL [] (by simp [maxLen])
    rw [size_alloc'] at h
    exact h.mono (Nat.le_succ _))
  have BB := Lib.hid ((below1 w (.cells #[] tI)).trans ((below1 (w.alloc (.cells #[] tI)) (.cells #[] tL)).mono (by simp)))
  go_enter Try.func92, Try.ntmps92
  go_wp2_with fail
  generalize ((w.alloc (.cells #[] tI)).alloc (.cells #[] tL)) = w1 at OT OO BB ⊢
  go_loopw [3, 12] (fun tv x wr => ∃ i : Nat, i ≤ n ∧ x = .int .i64 i ∧ OwnInts wr w.heap.size tI tv (up (List.range i)) ∧ Own wr w.heap.size tL (.slice (some ⟨w.heap.size + 1, 0, none⟩) 0 0) [] ∧ Below w.heap.size w wr) (fun _ x _ => n - (intOf x).toNat)
  case atStart => exact ⟨0, Nat.zero_le _, rfl, OT.out, OO.out, BB.out⟩
  case round =>
    obtain ⟨i, hi, rfl, ht, ho, hb⟩ := hrel
    clear OT OO BB
    have HT := Lib.hid ht
    have HO := Lib.hid ho
    have HB := Lib.hid hb
    clear ht ho hb
    by_cases hlt : i < n
    · have hii : (i : Int) < (n : Int) := by omega
      have hz64 : In64 (i : Int) := by unfold In64; omega
      go_wp2_with (at_builtin; refine wpList_app1 T_int HT.out.1 (by rw [ints_len, up_len, List.length_range]; omega) HB.out.size (by rfl) rfl (by rfl) (by rfl) (by rfl) ?_; intro v1 w5 hown1 hgr1; have HN := Lib.hid hown1; have HB5 := Lib.hid (hgr1.below HB.out HB.out.size HT.out.1.ge); have HO5 := Lib.hid (HO.out.kept hgr1.1 (HO.out.bt.ne HT.out.1.bt (by decide))); clear hown1 hgr1)
      go_roundw
      case rel =>
        refine ⟨i + 1, by omega, by go_num, ?_, HO5.out, HB5.out⟩
        rw [List.range_succ, up_append]
        exact ⟨by simpa [ints, up] using HN.out, fun y hy => by rcases List.mem_append.1 hy with hy | hy; exact HT.out.2 y hy; simp [up] at hy; subst hy; exact hz64⟩
      case measure => simp [intOf]; omega
    · have hin : i = n := by omega
      subst hin
      obtain ⟨gt, ct, rfl⟩ : ∃ gt ct, u3 = .slice (some ⟨gt, 0, none⟩) i ct := by
        rcases HT.out.1.cases with ⟨_, hv⟩ | ⟨g, cap, cur, he, _⟩
        · have h2 := congrArg List.length hv
          rw [ints_len, up_len, List.length_range] at h2
          simp at h2; omega
        · rw [ints_len, up_len, List.length_range] at he; exact ⟨g, cap, he⟩
      go_wp2_with fail
      obtain ⟨wA, rfl⟩ : ∃ wA : World, wA = wr := ⟨_, rfl⟩
      go_loopw [4] (fun ov wr => ∃ (dn : List (List Nat)) (f : Nat) (t : List Nat) (vs : List Value), f + dn.length = 200 ∧ Hid (dn ++ treesF f t = treesN i) ∧ t.length = i ∧ OwnInts wr w.heap.size tI (.slice (some ⟨gt, 0, none⟩) i ct) (up t) ∧ Own wr w.heap.size tL ov vs ∧ RR wr w.heap.size vs (dn.map up) ∧ vs.Pairwise Apart ∧ (∀ u ∈ vs, Apart u (.slice (some ⟨gt, 0, none⟩) i ct)) ∧ Below w.heap.size w wr) (fun ov _ => 200 - lenV ov)
      case atStart => exact ⟨[], 200, List.range i, [], rfl, rfl, by simp, HT.out, HO.out, RR.nil _ _, List.Pairwise.nil, fun u hu => by simp at hu, HB.out⟩
      case round =>
        obtain ⟨dn, f, t, vs, hf, HTF, htl, ht, ho, hr, hap, hat, hb⟩ := hrel
        clear HT HO HB
        have hdl : dn.length ≤ 115 := by have h := congrArg List.length HTF.out; have h2 := HLEN.out; simp at h; omega
        obtain ⟨f', rfl⟩ : ∃ f', f = f' + 1 := ⟨f - 1, by omega⟩
        have htf := HTF.out
        rw [treesF] at htf
        have hmem : t ∈ treesN i := by rw [← htf]; simp
        obtain ⟨-, hlv, hcan, hpar⟩ := HALL.out t hmem
        have hvl : vs.length = dn.length := by rw [hr.1, List.length_map]
        have hvl2 : vs.length ≤ 115 := by omega
        have HVL := Lib.hid hvl
        have HT := Lib.hid ht
        have HO := Lib.hid ho
        have HR := Lib.hid hr
        have HAP := Lib.hid hap
        have HAT := Lib.hid hat
        have HB := Lib.hid hb
        have HTL := Lib.hid htl
        have HFF := Lib.hid hf
        have HTF2 := Lib.hid htf
        have HPAR := Lib.hid hpar
        have HLT := Lib.hid (show ∀ k, t.getD k 0 ≤ 8 from fun k => by
          cases hk : t[k]? with
          | none => simp [List.getD, hk]
          | some l => have := canO_lt hcan l (List.mem_of_getElem? hk); simp [List.getD, hk]; omega)
        obtain ⟨Ao, co, rfl, -, -⟩ := ho.cells.open_
        have HSC := Lib.hid (rfl : succT t = succT t)
        clear hf htl ht ho hr hap hat hb htf hmem hlv hcan hpar HTF hvl
        go_upto_region 8 with (first
          | (go_at_call 151; refine (lib_Clone _ _ (up t) HT.out.ints (by rw [up_len, HTL.out]; omega)).mono ?_; rintro e w2 ⟨r2, rfl, ho2, hb2⟩; obtain ⟨A5, c5, he5, -, -, -⟩ := ho2.ints.open_; rw [up_len] at he5; subst he5; have HAF := Lib.hid (HR.out.fresh (Nat.le_refl _) ho2.1.ge); have HTA := Lib.hid (show Apart (.slice A5 t.length c5) (.slice (some ⟨gt, 0, none⟩) i ct) from (apart_of_lt HT.out.1.lt ho2.1.ge).symm); have HO2 := Lib.hid (ho2.mono HB.out.size); have HBI := Lib.hid hb2; have HB2 := Lib.hid (HB.out.trans (hb2.mono HB.out.size)); have HOW := Lib.hid (HO.out.below hb2); have HT2 := Lib.hid (HT.out.below hb2); clear ho2 hb2)
          | (at_builtin; refine wpList_app1 T_row HOW.out (by omega) HB2.out.size (by rfl) rfl (by rfl) (by rfl) (by rfl) ?_; intro v1 w5 hown1 hgr1; have HN1 := Lib.hid hown1; have HR1 := Lib.hid (LL.snoc HOW.out (HR.out.below HBI.out) HO2.out hown1 hgr1.1); have HB5 := Lib.hid (hgr1.below HB2.out HB2.out.size HOW.out.ge); have HT5 := Lib.hid (HT2.out.kept hgr1.1 (HT2.out.1.bt.ne HOW.out.bt (by decide))); clear hown1 hgr1))
        have HAP5 := Lib.hid (pairApart_snoc HAP.out HAF.out)
        have HAT5 := Lib.hid (show ∀ u ∈ vs ++ [.slice A5 t.length c5], Apart u (.slice (some ⟨gt, 0, none⟩) i ct) from fun u hu => by
          rcases List.mem_append.1 hu with hu | hu
          · exact HAT.out u hu
          · simp at hu; subst hu; exact HTA.out)
        have HDN := Lib.hid (show RR w5 w.heap.size (vs ++ [.slice A5 t.length c5]) ((dn ++ [t]).map up) from by rw [List.map_append]; exact HR1.out)
        clear HAP HAF HAT HTA HO2 HBI HOW HT2 HR1 HT HO HR HB HB2
        generalize hvs : vs ++ [.slice A5 t.length c5] = vs5 at HN1 HAP5 HAT5 HDN
        obtain ⟨ad, zz, hae, h3t⟩ : ∃ ad : Addr, ∃ zz : Unit, (some (⟨gt, 0, none⟩ : Addr)) = some ad ∧ ∀ k, k < i → w5.cell? ⟨gt, k, none⟩ = some (.int .i64 (t.getD k 0 : Nat)) := by
          refine ⟨_, (), rfl, fun k hk => ?_⟩
          obtain ⟨A, c, e, -, -, h3⟩ := HT5.out.ints.open_
          obtain ⟨ad, z, hA, hz', -, hc⟩ := h3 k (by rw [up_len, HTL.out]; exact hk)
          simp only [Value.slice.injEq] at e
          obtain ⟨rfl, -, -⟩ := e
          injection hA with hA
          subst hA
          obtain ⟨l, hl, hzl⟩ := up_getD hz'
          rw [addr_add] at hc
          rw [hc, hzl]
          simp [List.getD, hl]
        have H3 := Lib.hid h3t
        clear h3t hae
        have hwi : IntKind.i64.wrap ((i : Int) - 1) = (i : Int) - 1 := IntWalk.i64_in _ (by omega)
        go_wp2_with fail
        go_loopw [6] (fun x wi => ∃ m : Nat, m ≤ i ∧ x = .int .i64 ((m : Int) - 1) ∧ Hid (pN t m = pN t i) ∧ w5 = wi) (fun x _ => (intOf x + 1).toNat)
        case atStart => exact ⟨i, Nat.le_refl _, rfl, rfl, rfl⟩
        case round =>
          obtain ⟨m, hm, rfl, HPN, rfl⟩ := hrel
          cases m with
          | zero =>
            have h0 : ((0 : Nat) : Int) - 1 = -1 := rfl
            rw [h0]
            clear h0 hm
            have HFIN := Lib.hid (show dn ++ [t] = treesN i from by
              have h := HTF2.out
              have hs : succT t = none := by unfold succT; rw [HTL.out, ← HPN.out]; rfl
              rw [hs] at h
              exact h)
            go_wp2_with fail
            go_ret
            refine ⟨_, rfl, ⟨vs5, HN1.out, ?_, HAP5.out⟩, HB5.out⟩
            rw [← HFIN.out]; exact HDN.out
          | succ k =>
            have h0 : ((k + 1 : Nat) : Int) - 1 = (k : Int) := by omega
            rw [h0]
            clear h0
            have hck := H3.out k (by omega)
            have hki : (k : Int) < (i : Int) := by omega
            have hk0 : (0 : Int) ≤ (k : Int) := by omega
            have hkd : decide ((0 : Int) ≤ (k : Int)) = true := by simp
            have hwk : IntKind.i64.wrap ((k : Int) - 1) = (k : Int) - 1 := IntWalk.i64_in _ (by omega)
            have hpk : pN t (k + 1) = bif Nat.ble (t.getD k 0) 1 then pN t k else k + 1 := rfl
            have HGK := Lib.hid (rfl : t.getD k 0 = t.getD k 0)
            generalize hL : t.getD k 0 = L at hck hpk
            have HL := Lib.hid hL
            clear hL
            by_cases hq : L ≤ 1
            · have hd : decide ((L : Int) ≤ 1) = true := by simp; omega
              have hq1 : (L : Int) ≤ 1 := by omega
              rw [Nat.ble_eq_true_of_le hq] at hpk
              have HPK := Lib.hid hpk
              clear hpk hq
              go_wp2_with fail
              go_roundw
              case rel => exact ⟨k, by omega, rfl, by rw [← HPN.out]; exact HPK.out.symm, by first | rfl | trivial⟩
              case measure => first | (simp [intOf]; done) | (simp [intOf]; omega)
            · have hd : decide ((L : Int) ≤ 1) = false := by simp; omega
              have hq1 : ¬ ((L : Int) ≤ 1) := by omega
              have hble : Nat.ble L 1 = false := by
                cases h : Nat.ble L 1 with
                | true => exact absurd (Nat.le_of_ble_eq_true h) hq
                | false => rfl
              rw [hble] at hpk
              have HPI := Lib.hid (show pN t i = k + 1 from by rw [← HPN.out]; exact hpk)
              have HPP := Lib.hid (show 0 < parN t L k from by rw [← HL.out]; exact HPAR.out k (by rw [HTL.out]; exact HPI.out))
              clear hpk hq hble
              go_wp2_with fail
              go_loopw [7] (fun x wi => ∃ m nd : Nat, m ≤ k ∧ x = .int .i64 ((m : Int) - 1) ∧ Hid (parN t L m = parN t L k) ∧ wi = w5.drewN nd) (fun x _ => (intOf x + 1).toNat)
              case atStart => exact ⟨k, 0, Nat.le_refl _, rfl, rfl, rfl⟩
              case round =>
                obtain ⟨m, nd, hm2, rfl, HQN, rfl⟩ := hrel
                cases m with
                | zero => exact absurd HPP.out (by rw [← HQN.out]; exact Nat.lt_irrefl 0)
                | succ s =>
                  have h0 : ((s + 1 : Nat) : Int) - 1 = (s : Int) := by omega
                  rw [h0]
                  clear h0
                  have hcs := H3.out s (by omega)
                  have hsi : (s : Int) < (i : Int) := by omega
                  have hs0 : (0 : Int) ≤ (s : Int) := by omega
                  have hws : IntKind.i64.wrap ((s : Int) - 1) = (s : Int) - 1 := IntWalk.i64_in _ (by omega)
                  have hLb : L ≤ 8 := by have := HLT.out k; rw [HL.out] at this; exact this
                  have hwL : IntKind.i64.wrap ((L : Int) - 1) = (L : Int) - 1 := IntWalk.i64_in _ (by omega)
                  have hps : parN t L (s + 1) = bif Nat.beq (t.getD s 0 + 1) L then s + 1 else parN t L s := rfl
                  generalize hS : t.getD s 0 = S at hcs hps
                  have HS := Lib.hid hS
                  clear hS
                  by_cases hq2 : S + 1 = L
                  · have hd2 : ((S : Int) != (L : Int) - 1) = false := by simp; omega
                    have HPQ := Lib.hid (show parN t L k = s + 1 from by rw [← HQN.out, hps, hq2, Nat.beq_refl]; rfl)
                    have HSU := Lib.hid (show succT t = some (fillF t (k - s) (i - k) k) from by
                      unfold succT
                      rw [HTL.out, HPI.out]
                      simp only
                      rw [HL.out, HPQ.out, Nat.add_sub_cancel])
                    clear hps hq2
                    go_wp2_with fail
                    go_quiet (fail)
                    go_wp2_with fail
                    rw [World.drewN_drewN]
                    have HT6 := Lib.hid (show OwnInts (w5.drewN (nd + nq)) w.heap.size tI (.slice (some ⟨gt, 0, none⟩) i ct) (up t) from HT5.out)
                    have HN6 := Lib.hid (HN1.out.drewN (nd + nq))
                    have HD6 := Lib.hid (HDN.out.below (below_drewN (Below.refl _ _) (nd + nq)))
                    have HB6 := Lib.hid (below_drewN HB5.out (nd + nq))
                    generalize (w5.drewN (nd + nq)) = w6 at HT6 HN6 HD6 HB6 ⊢
                    have hsk : s < k := by omega
                    have hwd : IntKind.i64.wrap ((k : Int) - (s : Int)) = (k : Int) - (s : Int) := IntWalk.i64_in _ (by omega)
                    clear hcs hck hd hd2 HT5 HN1 HDN HB5
                    go_loopw [8] (fun x wi => ∃ (c : Nat) (tt : List Nat), k ≤ c ∧ c ≤ i ∧ x = .int .i64 c ∧ tt.length = i ∧ Hid (∀ l ∈ tt, l ≤ 8) ∧ Hid (fillF tt (k - s) (i - c) c = fillF t (k - s) (i - k) k) ∧ OwnInts wi w.heap.size tI (.slice (some ⟨gt, 0, none⟩) i ct) (up tt) ∧ Own wi w.heap.size tL v1 vs5 ∧ RR wi w.heap.size vs5 ((dn ++ [t]).map up) ∧ Below w.heap.size w wi) (fun x _ => i - (intOf x).toNat)
                    case atStart => exact ⟨k, t, Nat.le_refl _, by omega, rfl, HTL.out, fun l hl => by obtain ⟨j, hj, rfl⟩ := List.getElem_of_mem hl; have := HLT.out j; simpa [List.getD, hj] using this, rfl, HT6.out, HN6.out, HD6.out, HB6.out⟩
                    case round =>
                      obtain ⟨c, tt, hkc, hci, rfl, htl, HTB, HFL, ht, ho, hr, hb⟩ := hrel
                      clear HT6 HN6 HD6 HB6
                      have HT := Lib.hid ht
                      have HO := Lib.hid ho
                      have HR := Lib.hid hr
                      have HB := Lib.hid hb
                      have HTL2 := Lib.hid htl
                      clear ht ho hr hb htl
                      by_cases hlt3 : c < i
                      · have hcc : (c : Int) < (i : Int) := by omega
                        have hc0 : (0 : Int) ≤ (c : Int) := by omega
                        obtain ⟨e, he⟩ : ∃ e, e = c - (k - s) := ⟨_, rfl⟩
                        have hwe : IntKind.i64.wrap ((c : Int) - ((k : Int) - (s : Int))) = (e : Int) := by rw [IntWalk.i64_in _ (by omega)]; omega
                        have hei : (e : Int) < (i : Int) := by omega
                        have he0 : (0 : Int) ≤ (e : Int) := by omega
                        have hce : wr.cell? ⟨gt, e, none⟩ = some (.int .i64 (tt.getD e 0 : Nat)) := by
                          obtain ⟨A, c', e', -, -, h3⟩ := HT.out.ints.open_
                          obtain ⟨ad, z, hA, hz', -, hc⟩ := h3 e (by rw [up_len, HTL2.out]; omega)
                          simp only [Value.slice.injEq] at e'
                          obtain ⟨rfl, -, -⟩ := e'
                          injection hA with hA
                          subst hA
                          obtain ⟨l, hl, hzl⟩ := up_getD hz'
                          rw [addr_add] at hc
                          rw [hc, hzl]
                          simp [List.getD, hl]
                        have hE8 : tt.getD e 0 ≤ 8 := by
                          cases hk : tt[e]? with
                          | none => simp [List.getD, hk]
                          | some l => have := HTB.out l (List.mem_of_getElem? hk); simpa [List.getD, hk] using this
                        have hfl := HFL.out
                        rw [show i - c = (i - (c + 1)) + 1 by omega, fillF, ← he] at hfl
                        generalize tt.getD e 0 = E at hce hE8 hfl
                        have HFL2 := Lib.hid hfl
                        obtain ⟨u0, -, q0, q1, -, -, hst, hgb⟩ := HT.out.1.storeAt (k := c) (by rw [ints_len, up_len, HTL2.out]; exact hlt3) (.int .i64 (E : Int))
                        have HST := Lib.hid (show OwnInts (wr.setCell ⟨gt, c, none⟩ (.int .i64 (E : Int))) w.heap.size tI (.slice (some ⟨gt, 0, none⟩) i ct) (up (tt.set c E)) from ⟨by simpa [ints, up, List.map_set] using hst, fun z hz => by
                          simp only [up, List.map_set] at hz
                          rcases List.mem_or_eq_of_mem_set hz with hz | hz
                          · exact HT.out.2 z hz
                          · rw [hz]; unfold In64; omega⟩)
                        have HO2 := Lib.hid (HO.out.kept hgb (HO.out.bt.ne (v' := .slice (some ⟨gt, 0, none⟩) i ct) HT.out.1.bt (by decide)))
                        have HR2 := Lib.hid (HR.out.keptAp (v := .slice (some ⟨gt, 0, none⟩) i ct) hgb HAT5.out)
                        have HB2 := Lib.hid (HB.out.setCell (p := ⟨gt, c, none⟩) (HT.out.1.ge gt rfl) (.int .i64 (E : Int)))
                        have HTB2 := Lib.hid (show ∀ l ∈ tt.set c E, l ≤ 8 from fun l hl => by
                          rcases List.mem_or_eq_of_mem_set hl with hl | hl
                          · exact HTB.out l hl
                          · omega)
                        clear hst hgb hfl he
                        go_wp2_with fail
                        go_roundw
                        case rel => exact ⟨c + 1, tt.set c E, by omega, by omega, by go_num, by rw [List.length_set]; exact HTL2.out, HTB2.out, HFL2.out, HST.out, HO2.out, HR2.out, HB2.out⟩
                        case measure => simp [intOf]; omega
                      · have hce : c = i := by omega
                        have hfl := HFL.out
                        rw [hce, Nat.sub_self, fillF] at hfl
                        have HNX := Lib.hid (show dn ++ [t] ++ treesF f' tt = treesN i from by
                          have h := HTF2.out
                          rw [HSU.out, ← hfl] at h
                          simpa using h)
                        have hcc : ¬ ((c : Int) < (i : Int)) := by omega
                        have HLN := Lib.hid (show (dn ++ [t]).length = dn.length + 1 from by simp)
                        clear hfl hce
                        go_wp2_with fail
                        go_roundw
                        case rel => exact ⟨dn ++ [t], f', tt, vs5, by rw [HLN.out]; have := HFF.out; omega, HNX.out, HTL2.out, HT.out, HO.out, HR.out, HAP5.out, HAT5.out, HB.out⟩
                        case measure =>
                          obtain ⟨A9, c9, h9, -, -⟩ := HO.out.cells.open_
                          have h10 : vs5.length = vs.length + 1 := by rw [← hvs]; simp
                          rw [h9]
                          show 200 - vs5.length < 200 - vs.length
                          omega
                  · have hd2 : ((S : Int) != (L : Int) - 1) = true := by simp; omega
                    have HPS := Lib.hid (show parN t L (s + 1) = parN t L s from by
                      rw [hps]
                      cases h : Nat.beq (S + 1) L with
                      | true => exact absurd (Nat.eq_of_beq_eq_true h) hq2
                      | false => rfl)
                    clear hps hq2
                    go_wp2_with fail
                    go_quiet (fail)
                    go_wp2_with fail
                    go_roundw
                    case rel => exact ⟨s, _, by omega, rfl, by rw [← HQN.out]; exact HPS.out.symm, by first | rfl | exact World.drewN_drewN ..⟩
                    case measure => first | (simp [intOf]; done) | (simp [intOf]; omega)
end Go.Proofs.Ytbjeibcombjfgaa

