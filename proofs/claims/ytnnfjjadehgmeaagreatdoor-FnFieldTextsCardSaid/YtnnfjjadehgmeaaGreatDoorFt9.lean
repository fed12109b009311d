/- Walk of the program: readPart. | append(s, make([]int64, k)...) at an owned list. No program in sight but for the types. | One round of 'z.A = append(z.A, row)', in plain words of memory. No program in sight. | One round of 'z.A = append(z.A, row); z.B = append(z.B, x)', in plain words of memory. No program in sight. | Rows and numbers that grow side by side, in plain words of memory. No program in sight. | Columns that grow beside a tableau, in plain words of memory. No program in sight. | Walks: times of the program. | Walks: l01Own, l01Own2, l09Own of the reference. | Walks: equality of lists and of lists of lists, of the library and of the reference. -/
import Derived.Test.YtnnfjjadehgmeaaGreatDoorFt8
import Derived.Test.YtnnfjjadehgmeaaGreatDoorFt6
import Derived.Deep.RegionLaw
import Derived.Deep.CutRange
import Derived.Deep.CutBlock
import Derived.Test.YtnnfjjadehgmeaaGreatDoorRows
import Derived.Test.YtnnfjjadehgmeaaGreatDoorFt1
import Derived.Test.YtnnfjjadehgmeaaGreatDoorFt2
import Derived.Lib.AppendZerosOnto
import Derived.Deep.RegionHeld3
set_option maxRecDepth 100000
set_option linter.unusedVariables false
set_option linter.unusedSimpArgs false
namespace Go.Proofs.YtnnfjjadehgmeaaGreatDoor
open Go.RowKit

theorem T_monoP : ElemK Tryz.prog 39 tM (.agg #[.int .i64 0, .slice none 0 0]) 2 32 := ⟨Tryz.underlying39, by kernel_rfl, rfl, by omega, by omega⟩
theorem T_intP : ElemT Tryz.prog 42 2 (.int .i64 0) 8 := ⟨Tryz.underlying42, by kernel_rfl, rfl, by omega⟩
theorem OMd.pushP' {W W6 W7 : World} {B C : Nat} {v v' u : Value} {us : List Value} {ms : List Mono} {m : Mono} (h : OMd W B C v us ms) (hC : C ≤ W.heap.size) (h6 : Below W.heap.size W W6) (hu : OwnInts W6 B tI u m.2) (hap : ∀ (k : Nat) (x : Value), us[k]? = some x → Apart x u) (hm : In64 m.1)
    (hn : OwnK W7 B tM 2 v' (List.zipWith cellM us ms ++ [cellM u m])) (hg : Grow W6 W7 v v') : OMd W7 B W7.heap.size v' (us ++ [u]) (ms ++ [m]) := by
  have s6 := h6.size
  have s7 := hg.1.size
  have hbt : BT W6 tM v := (OwnK.below h.own h6).bt
  refine ⟨by rw [List.zipWith_append h.len]; exact hn, fun b hb => OwnK.lt hn b hb, ?_, fun x hx => ?_⟩
  · rw [List.map_append]
    have hr := (h.rows.below h6).other hg.1 (fun k x hx => by
      have hz : (ms.map (·.2))[k]? = some ((ms.map (·.2))[k]'(by rw [← h.rows.1]; exact (List.getElem?_eq_some_iff.1 hx).1)) := List.getElem?_eq_getElem _
      exact (((h.rows.below h6).2.1 k x _ hx hz).1.1.bt).ne hbt (by decide))
    have hu7 : OwnInts W7 B tI u m.2 := hu.kept hg.1 (hu.1.bt.ne hbt (by decide))
    exact (hr.mono (Nat.le_refl _) (by omega)).snoc (OI.of hu7) hap
  · rcases List.mem_append.1 hx with hx | hx
    · exact h.in_ x hx
    · rw [List.mem_singleton.1 hx]; exact hm
theorem OMd.pushP {W W6 W7 : World} {B C : Nat} {v v' u : Value} {us : List Value} {ms : List Mono} {m : Mono} (h : OMd W B C v us ms) (hC : C ≤ W.heap.size) (hB : B ≤ W.heap.size) (h6 : Below W.heap.size W W6) (hu : OwnInts W6 W.heap.size tI u m.2) (hm : In64 m.1)
    (hn : OwnK W7 B tM 2 v' (List.zipWith cellM us ms ++ [cellM u m])) (hg : Grow W6 W7 v v') : OMd W7 B W7.heap.size v' (us ++ [u]) (ms ++ [m]) :=
  h.pushP' hC h6 (hu.mono hB) (fun k x hx => by
    have hz : (ms.map (·.2))[k]? = some ((ms.map (·.2))[k]'(by rw [← h.rows.1]; exact (List.getElem?_eq_some_iff.1 hx).1)) := List.getElem?_eq_getElem _
    have ho := h.rows.2.1 k x _ hx hz
    exact apart_of_lt (B := W.heap.size) (fun b hb => Nat.lt_of_lt_of_le (ho.2 b hb) hC) (fun b hb => hu.1.ge b hb)) hm hn hg
theorem OMd.newP (w : World) : OMd (w.alloc (.cells #[] tM)) w.heap.size (w.heap.size + 1) (.slice (some ⟨w.heap.size, 0, none⟩) 0 0) [] [] where
  own := OwnK.lit w tM 2 [] (fun c hc => by simp at hc) (by simp [maxLen]) #[] rfl
  lt b hb := by simp [Value.ownBlock] at hb; omega
  rows := RowsOwn.nil _ _ _ _
  in_ m hm := by simp at hm
theorem str_back (x : ByteArray) : Value.string x = strB x.data.toList := by
  unfold strB
  congr 1
theorem lib_Split (b : UInt8) (l : List UInt8) (w : World) (hl : l.length ≤ 4294967000) (h : LibOK w) :
    Calls Tryz.prog 21 #[strB l, .string ⟨#[b]⟩] w fun e w' => ∃ g c, e = .returned (.slice (some ⟨g, 0, none⟩) (splB b l).length c) ∧ Own w' w.heap.size tStr (.slice (some ⟨g, 0, none⟩) (splB b l).length c) (strs (splB b l)) ∧ Below w.heap.size w w' := by
  obtain ⟨m, hm⟩ := h.mx
  refine (Any.strings_Split Tryz.lays146 (by kernel_rfl) ⟨l.toArray⟩ ⟨#[b]⟩ m w (by show l.toArray.size < 4294967281; simp; omega) hm (Nat.le_refl 1)).mono fun e w' ⟨he, hw⟩ => ?_
  have hsp := splitB_splB b _ ⟨l.toArray⟩ rfl
  have hln := Lib.splitB_all ⟨#[b]⟩ (Nat.le_refl 1) 0 _ ⟨l.toArray⟩ rfl
  generalize Lib.splitB ⟨#[b]⟩ 0 (Lib.countB ⟨l.toArray⟩ ⟨#[b]⟩) ⟨l.toArray⟩ = xs at hsp hln hw
  have hsp2 : xs.map (·.data.toList) = splB b l := hsp
  have hst : xs.map Value.string = strs (splB b l) := by
    rw [← hsp2]
    unfold strs
    rw [List.map_map]
    exact List.map_congr_left fun x _ => str_back x
  have hlen : (splB b l).length = xs.length := by rw [← hsp2, List.length_map]
  rw [hst] at hw
  rw [hlen, hln]
  refine ⟨w.heap.size, _, he, ?_, by rw [hw]; exact below1 _ _⟩
  have ho := own_lit w tStr (strs (splB b l)) (by rw [strs_len]; have := splB_len b l; simp only [maxLen]; omega)
  rw [strs_len, hlen, hln] at ho
  rw [hw]
  exact ho
theorem ite3_bd {C D : Prop} [Decidable C] [Decidable D] (x y : Int) : 0 ≤ (if C then ((0 : Int), (6 : Int)) else if D then (0, 5) else (nofR x y, 0)).1 ∧ (if C then ((0 : Int), (6 : Int)) else if D then (0, 5) else (nofR x y, 0)).1 ≤ 10006 := by
  have h1 : 0 ≤ nofR x y := Int.emod_nonneg _ (by decide)
  have h2 : nofR x y < 10007 := Int.emod_lt_of_pos _ (by decide)
  by_cases hC : C
  · rw [if_pos hC]; exact ⟨Int.le_refl _, by simp⟩
  · rw [if_neg hC]
    by_cases hD : D
    · rw [if_pos hD]; exact ⟨Int.le_refl _, by simp⟩
    · rw [if_neg hD]; exact ⟨h1, by show nofR x y ≤ 10006; omega⟩
theorem pnF_bd (l : List UInt8) : 0 ≤ (pnF l).1 ∧ (pnF l).1 ≤ 10006 := by
  unfold pnF
  exact ite3_bd _ _
theorem pwB_in (l : List UInt8) : ∀ z ∈ pwB l, In64 z := by
  intro z hz
  unfold pwB at hz
  obtain ⟨b, -, rfl⟩ := List.mem_map.1 hz
  have := b.toNat_lt
  unfold In64
  constructor <;> omega
theorem pwB_len (l : List UInt8) : (pwB l).length = l.length := by unfold pwB; simp
theorem Blk.growP {w w' : World} {g : Nat} {t : TypeId} {cs : Array Value} {v v' : Value} (h : Blk w g t cs) (hg : Grow w w' v v') (hne : v.ownBlock ≠ some g) : Blk w' g t cs :=
  (hg.1.block g h.lt (fun e => hne e.symm)).trans h
theorem step_app1gP {P : Program} {ops : Array Oper} {o : Oper} {a : Act} {K : Act → World → Prop} {Q : Exit → Act → World → Prop} {E : Prop} {s x : Operand} {t : TypeId}
    {e : TypeId} {z : Value} {bytes : Nat} {B : Nat} {v : Value} {vs : List Value} {W : World} {u : Value} {ad : Addr}
    (T : ElemT P t e z bytes) (hown : Own W B e v vs) (hlen : vs.length < 1099511627776) (hB : B ≤ W.heap.size) (hu : u.oneCell' = true)
    (hgd : o.guard = none) (ho : o.op = .call { callee := .builtin .append, args := #[s, x], argTypes := #[t, t] }) (hs : a.eval s = v)
    (hx : a.eval x = .slice (some ad) 1 1) (hc : W.cell? ad = some u)
    (h : ∀ v' w', Own w' B e v' (vs ++ [u]) → Grow W w' v v' → K (a.put o.dst v') w') :
    if Region.wanted o (yielded ops a.tmps) = true then Oper.wp P o a W K Q else E := by
  have hw : Region.wanted o (yielded ops a.tmps) = true := by simp [Region.wanted, hgd]
  rw [if_pos hw]
  obtain ⟨i, hi, hz, h1, h2⟩ := info_parts T.info
  have hby := T.small
  obtain ⟨v', w', hrun, r1, r2, _, r3⟩ := run_append_own_at (P := P) W B t o.type e i z 1 bytes T.under hi hz h1 h2 (by rw [T.one]; rfl) (by omega) v vs.length vs hown ad 1 1 [u] rfl
    (fun j u' hj => by
      cases j with
      | zero =>
        simp at hj; subst hj
        exact hc
      | succ j => simp at hj) (by simpa using hu) (by simp only [maxLen]; omega) (by have := Nat.mul_le_mul_left (vs.length + 1) hby; omega) hB
  unfold Oper.wp execOp
  simp only [ho, resolve, invoke, builtin, Sem.run_bind, Sem.run_pure, Result.andThen_ok, List.map_toArray, List.map_cons, List.map_nil, hs, hx, hrun]
  refine h v' w' ?_ ⟨r2, ?_⟩
  · unfold Own; simpa using r1
  · rcases r3 with r3 | r3
    · exact .inl r3
    · exact .inr ⟨_, r3, Nat.le_refl _⟩
theorem pwB_take {p : List UInt8} {j : Nat} {b : UInt8} (h : p[j]? = some b) : ints ((pwB p).take j) ++ [.int .i64 ((b.toNat : Int) - 48)] = ints ((pwB p).take (j + 1)) := by
  have h2 : (pwB p)[j]? = some ((b.toNat : Int) - 48) := by unfold pwB; rw [List.getElem?_map, h]; rfl
  rw [List.take_add_one, h2]
  simp [ints]
/-- one exponent more -/
theorem pw_round {w3 wx w6 : World} {q j : Nat} {f : Int} {u v6 : Value} {p : List UInt8} {b : UInt8} (hk : Blk wx q tM #[.int .i64 f, u]) (hu : OwnInts wx (q + 1) tI u ((pwB p).take j)) (hb : Below q w3 wx) (hp : p[j]? = some b)
    (hn : Own w6 (q + 1) tI v6 (ints ((pwB p).take j) ++ [.int .i64 ((b.toNat : Int) - 48)])) (hg : Grow wx w6 u v6) :
    Blk (w6.setCell ⟨q, 1, none⟩ v6) q tM #[.int .i64 f, v6] ∧ OwnInts (w6.setCell ⟨q, 1, none⟩ v6) (q + 1) tI v6 ((pwB p).take (j + 1)) ∧ Below q w3 (w6.setCell ⟨q, 1, none⟩ v6) ∧ q + 1 ≤ (w6.setCell ⟨q, 1, none⟩ v6).heap.size := by
  have hne : u.ownBlock ≠ some q := fun e => by have := hu.1.ge q e; omega
  have hk6 := hk.growP hg hne
  have hb6 : Below q w3 w6 := hg.below hb (by have := hk.lt; omega) (fun b hb => by have := hu.1.ge b hb; omega)
  rw [pwB_take hp] at hn
  have hs : (w6.setCell ⟨q, 1, none⟩ v6).heap.size = w6.heap.size := by simp [World.setCell]
  refine ⟨hk6.set_ 1 v6, ⟨hn.of_block fun b hb => Below.heap_setCell w6 ⟨q, 1, none⟩ v6 b (fun e => by have := hn.ge b hb; simp only at e; omega), fun z hz => pwB_in p z (List.mem_of_mem_take hz)⟩, ?_, by rw [hs]; exact hk6.lt⟩
  exact hb6.trans ⟨rfl, rfl, rfl, by rw [hs]; exact Nat.le_refl _, fun k hk => Below.heap_setCell w6 ⟨q, 1, none⟩ v6 k (fun e => by simp only at e; omega)⟩
/-- what readPart answers -/
def RdRes (w w' : World) (e : Ending) (r : Option (List Mono)) : Prop := (∃ v ms, e = .returned (.tuple #[v, .bool true]) ∧ r = some ms ∧ OMo w' w.heap.size w'.heap.size v ms) ∨ (e = .returned (.tuple #[.slice none 0 0, .bool false]) ∧ r = none)
set_option maxHeartbeats 8000000 in
theorem i_readPart (w : World) (l : List UInt8) (hl : l.length ≤ 4294967000) (h : LibOK w) :
    Calls Tryz.prog 23 #[strB l] w fun e w' => Below w.heap.size w w' ∧ RdRes w w' e (rdP rdMF l) := by
  obtain ⟨w0, hw0⟩ : ∃ w0, w0 = w.alloc (.cells #[] tM) := ⟨_, rfl⟩
  have HN0 := Lib.hid (show OMd w0 w.heap.size (w.heap.size + 1) (.slice (some ⟨w.heap.size, 0, none⟩) 0 0) [] [] by rw [hw0]; exact OMd.newP w)
  have HB0 := Lib.hid (show Below w.heap.size w w0 by rw [hw0]; exact below1 w _)
  have HZ0 := Lib.hid (show w.heap.size + 1 ≤ w0.heap.size by rw [hw0]; exact Nat.le_of_eq (Array.size_push _).symm)
  have HL0 := Lib.hid (h.below HB0.out)
  have HLW := Lib.hid h
  have HRP := Lib.hid (show rdP rdMF l = if l = [48] then some [] else optL rdMF (splB 43 l) from rfl)
  clear h
  go_enter Tryz.func23, Tryz.ntmps23
  go_upto_region 2 with fail
  first | rw [← hw0] | skip
  clear hw0
  by_cases hz : l = [48]
  · subst hz
    have HE := Lib.hid (show rdP rdMF [48] = some [] by rw [HRP.out, if_pos rfl])
    go_wp2_with fail
    go_ret2
    exact ⟨HB0.out, .inl ⟨_, [], rfl, HE.out, [], HN0.out.mono (Nat.le_refl _) HZ0.out⟩⟩
  · have hzb : (l == [48]) = false := beq_eq_false_iff_ne.2 hz
    have HE := Lib.hid (show rdP rdMF l = optL rdMF (splB 43 l) by rw [HRP.out, if_neg hz])
    have HSPL := Lib.hid (lib_Split 43 l w0 hl HL0.out)
    have HTL := Lib.hid (splB_mem_len 43 l)
    have hnl := splB_len 43 l
    generalize splB 43 l = ts at HE HSPL HTL hnl
    clear hz HRP
    go_wp2_with (go_at_call 21; refine HSPL.out.mono ?_; rintro e w1 ⟨g, c, rfl, ho1, hb1⟩; have HO1 := Lib.hid ho1; have HB1 := Lib.hid hb1; clear ho1 hb1)
    have HN1 := Lib.hid ((HN0.out.agree (Same.of_below HB1.out HZ0.out)).mono (Nat.le_refl _) (Nat.le_trans HZ0.out HB1.out.size))
    have HBW := Lib.hid (HB0.out.trans (HB1.out.mono HB0.out.size))
    clear HN0 HSPL
    go_loopw [4, 21] (fun o i wr => ∃ (k : Nat) (us : List Value) (ms : List Mono), k ≤ ts.length ∧ i = .int .i64 k ∧ Hid (optL rdMF (ts.take k) = some ms) ∧ ms.length = k ∧ Hid (OMd wr w.heap.size wr.heap.size o us ms) ∧ Own wr w.heap.size tStr (.slice (some ⟨g, 0, none⟩) ts.length c) (strs ts) ∧ Below w.heap.size w wr) (fun _ i _ => ts.length - (intOf i).toNat)
    case atStart => exact ⟨0, [], [], Nat.zero_le _, rfl, Lib.hid rfl, rfl, HN1, HO1.out.mono HB0.out.size, HBW.out⟩
    case round =>
      obtain ⟨k, us, ms, hk, rfl, HOP, hml, HM, ho, hb⟩ := hrel
      rename World => wq
      clear HN1 HO1 HB1 HBW
      have HO := Lib.hid ho
      have HB := Lib.hid hb
      clear ho hb
      obtain ⟨Ao, co, hoe, -, -⟩ := HM.out.open_
      rw [hml] at hoe
      subst hoe
      by_cases hlt : k < ts.length
      · obtain ⟨t, ht⟩ : ∃ t, ts[k]? = some t := ⟨_, List.getElem?_eq_getElem hlt⟩
        have gk : wq.cell? ⟨g, k, none⟩ = some (strB t) := strs_cell HO.out ht
        have hki : (k : Int) < (ts.length : Int) := by omega
        have htl := HTL.out t (List.mem_of_getElem? ht)
        have HTK := Lib.hid ht
        have HLQ := Lib.hid (HLW.out.below HB.out)
        have hcl := cutB_len 58 t
        have HCU := Lib.hid (fun W (hW : LibOK W) => lib_Cut 58 t W (by omega) hW)
        have HRD := Lib.hid (show rdMF t = if (cutB 58 t).2.2 = false ∨ (pnF (cutB 58 t).1).2 ≠ 0 ∨ 3 < (cutB 58 t).2.1.length then none else some ((pnF (cutB 58 t).1).1, pwB (cutB 58 t).2.1) from rfl)
        generalize cutB 58 t = cu at hcl HCU HRD
        obtain ⟨a, p, fd⟩ := cu
        simp only at hcl HCU HRD
        have hpb := pnF_bd a
        have HPN := Lib.hid (fun W (hW : LibOK W) => i_ParseNumber W a (by omega) hW)
        generalize pnF a = pn at hpb HPN HRD
        obtain ⟨f, cd⟩ := pn
        simp only at hpb HPN HRD
        clear ht
        go_upto_region 9 with (first
          | (go_at_call 46; refine (HCU.out _ (by exact HLQ.out)).mono ?_; rintro e w2 ⟨rfl, n2, rfl⟩)
          | (go_at_call 47; refine (HPN.out _ (by exact HLQ.out.below (below_drewN (Below.refl _ _) _))).mono ?_; rintro e w3 ⟨rfl, hb3⟩; have HB3 := Lib.hid (show Below wq.heap.size wq w3 from (below_drewN (Below.refl _ _) _).trans hb3); clear hb3))
        clear gk HCU HPN
        have HBX := Lib.hid (HB.out.trans (HB3.out.mono HB.out.size))
        cases hfd : fd with
        | false =>
          have HNN := Lib.hid (HE.out.trans (optL_none (List.mem_of_getElem? HTK.out) (show rdMF t = none by rw [HRD.out, hfd, if_pos (.inl rfl)])))
          clear hfd
          go_wp2_with fail
          go_ret2
          exact ⟨HBX.out, .inr ⟨rfl, HNN.out⟩⟩
        | true =>
          by_cases hcd : cd = 0
          · have hcb : (cd != 0) = false := by simpa using hcd
            by_cases hp3 : 3 < p.length
            · have hp3i : (3 : Int) < (p.length : Int) := by omega
              have HNN := Lib.hid (HE.out.trans (optL_none (List.mem_of_getElem? HTK.out) (show rdMF t = none by rw [HRD.out, if_pos (.inr (.inr hp3))])))
              clear hfd hcd hp3
              go_wp2_with fail
              go_ret2
              exact ⟨HBX.out, .inr ⟨rfl, HNN.out⟩⟩
            · have hp3i : ¬ (3 : Int) < (p.length : Int) := by omega
              have HMM := Lib.hid (show rdMF t = some (f, pwB p) by rw [HRD.out, if_neg (fun h => h.elim (fun h => by rw [hfd] at h; cases h) fun h => h.elim (fun h => h hcd) hp3)])
              have hpl : p.length ≤ 3 := by omega
              clear hfd hcd hp3 HRD
              obtain ⟨w4, hw4⟩ : ∃ w4, w4 = w3.alloc (.cells #[.int .i64 f, .slice none 0 0] tM) := ⟨_, rfl⟩
              have KM := Lib.hid (show Blk w4 w3.heap.size tM #[.int .i64 f, .slice none 0 0] by rw [hw4]; exact Blk.new _ _ _)
              have HB4 := Lib.hid (show Below w3.heap.size w3 w4 by rw [hw4]; exact below1 _ _)
              go_upto_region 12 with fail
              first | rw [← hw4] | skip
              clear hw4
              go_wp2_with fail
              obtain ⟨q, hq⟩ : ∃ q, q = w3.heap.size := ⟨_, rfl⟩
              rw [← hq] at KM HB4 ⊢
              have HQ := Lib.hid hq
              clear hq
              go_loopw [51] (fun i wx => ∃ (j : Nat) (u : Value), j ≤ p.length ∧ i = .int .i64 j ∧ Hid (Blk wx q tM #[.int .i64 f, u]) ∧ Hid (OwnInts wx (q + 1) tI u ((pwB p).take j)) ∧ Hid (Below q w3 wx) ∧ Hid (q + 1 ≤ wx.heap.size)) (fun i _ => p.length - (intOf i).toNat)
              case atStart => exact ⟨0, .slice none 0 0, Nat.zero_le _, rfl, KM, Lib.hid (OwnInts.nil _ _ _), HB4, Lib.hid KM.out.lt⟩
              case round =>
                obtain ⟨j, u, hj, rfl, HK, HU, HBQ, HSZ⟩ := hrel
                rename World => wx
                clear KM HB4
                by_cases hlt2 : j < p.length
                · obtain ⟨b, hb⟩ : ∃ b, p[j]? = some b := ⟨_, List.getElem?_eq_getElem hlt2⟩
                  have hix := str_ix hb
                  have hjp : (j : Int) < (p.length : Int) := by omega
                  have hol := HU.out.1.cells.open_
                  have hlen : (ints ((pwB p).take j)).length = j := by rw [ints_len, List.length_take, pwB_len]; omega
                  rw [hlen] at hol
                  obtain ⟨Au, cu, rfl, -, -⟩ := hol
                  have k1 : wx.cell? ⟨q, 1, none⟩ = some (.slice Au j cu) := HK.out.cell 1
                  have f1 : wx.frozen? ⟨q, 1, none⟩ = false := HK.out.frozen 1
                  have k1a : ∀ o, (wx.alloc o).cell? ⟨q, 1, none⟩ = some (.slice Au j cu) := fun o => (HK.out.alloc o).cell 1
                  have hww : IntKind.i64.wrap (IntKind.i64.wrap (b.toNat : Int) - 48) = (b.toNat : Int) - 48 := by have := b.toNat_lt; rw [IntWalk.i64_in (b.toNat : Int) (by omega)]; exact IntWalk.i64_in _ (by omega)
                  have HWW := Lib.hid hww
                  clear hww
                  have HPJ := Lib.hid hb
                  clear hb
                  go_upto_region 15 with fail
                  have HCA := Lib.hid (show ((wx.alloc (.cells #[.int .i64 (IntKind.i64.wrap (IntKind.i64.wrap (b.toNat : Int) - 48))] tI)).drew).cell? ⟨wx.heap.size, 0, none⟩ = some (.int .i64 (IntKind.i64.wrap (IntKind.i64.wrap (b.toNat : Int) - 48))) from ((Blk.new wx _ _).drewN 1).cell 0)
                  have HKA := Lib.hid (show Blk ((wx.alloc (.cells #[.int .i64 (IntKind.i64.wrap (IntKind.i64.wrap (b.toNat : Int) - 48))] tI)).drew) q tM #[.int .i64 f, .slice Au j cu] from (HK.out.alloc _).drewN 1)
                  have HUA := Lib.hid (show OwnInts ((wx.alloc (.cells #[.int .i64 (IntKind.i64.wrap (IntKind.i64.wrap (b.toNat : Int) - 48))] tI)).drew) (q + 1) tI (.slice Au j cu) ((pwB p).take j) from ⟨(HU.out.1.alloc _).drewN 1, HU.out.2⟩)
                  have HBA := Lib.hid (show Below q w3 ((wx.alloc (.cells #[.int .i64 (IntKind.i64.wrap (IntKind.i64.wrap (b.toNat : Int) - 48))] tI)).drew) from (HBQ.out.alloc (by have := HSZ.out; omega) _).drew)
                  have HZA := Lib.hid (show q + 1 ≤ ((wx.alloc (.cells #[.int .i64 (IntKind.i64.wrap (IntKind.i64.wrap (b.toNat : Int) - 48))] tI)).drew).heap.size from by have := HSZ.out; show q + 1 ≤ (wx.alloc _).heap.size; simp; omega)
                  have hne : (Value.slice Au j cu).ownBlock ≠ some q := fun e => by have := HU.out.1.ge q e; omega
                  have HNE := Lib.hid hne
                  clear hne
                  go_region_law ((refine step_app1gP T_intP (W := ((wx.alloc (.cells #[.int .i64 (IntKind.i64.wrap (IntKind.i64.wrap (b.toNat : Int) - 48))] tI)).drew)) (u := .int .i64 (IntKind.i64.wrap (IntKind.i64.wrap (b.toNat : Int) - 48))) (ad := ⟨wx.heap.size, 0, none⟩) (B := q + 1) (v := .slice Au j cu) (vs := ints ((pwB p).take j)) HUA.out.1 (by rw [hlen]; omega) HZA.out (by rfl) rfl (by rfl) (by rfl) (by rfl) HCA.out ?_; intro v6 w6 hown6 hgr6; rw [HWW.out] at hown6; obtain ⟨A6, c6, hv6, -⟩ := hown6.cells.open_; rw [List.length_append, hlen, List.length_singleton] at hv6; subst hv6; have HPR := Lib.hid (pw_round HKA.out HUA.out HBA.out HPJ.out hown6 hgr6); have hk6 := HKA.out.growP hgr6 HNE.out; have f6 : w6.frozen? ⟨q, 1, none⟩ = false := hk6.frozen 1; have k6 : w6.cell? ⟨q, 1, none⟩ = some (.slice Au j cu) := hk6.cell 1; clear hk6 hown6 hgr6))
                  all_goals
                    go_wp2_with fail
                    go_roundw
                    case rel =>
                      first
                      | exact ⟨j + 1, _, by omega, by go_num, Lib.hid HPR.out.1, Lib.hid HPR.out.2.1, Lib.hid HPR.out.2.2.1, Lib.hid HPR.out.2.2.2⟩
                      | exact ⟨j + 1, _, by omega, by go_num, Lib.hid (HPR.out.1.drewN 1), Lib.hid HPR.out.2.1, Lib.hid HPR.out.2.2.1.drew, Lib.hid HPR.out.2.2.2⟩
                    case measure => simp [intOf]; omega
                · have hje : j = p.length := by omega
                  subst hje
                  have hu2 := HU.out
                  rw [List.take_of_length_le (by rw [pwB_len]; exact Nat.le_refl _)] at hu2
                  have HU2 := Lib.hid hu2
                  clear hu2 HU
                  obtain ⟨Au, cu, hue, -, -⟩ := HU2.out.1.cells.open_
                  obtain ⟨nu, hnu⟩ : ∃ nu, nu = (ints (pwB p)).length := ⟨_, rfl⟩
                  rw [← hnu] at hue
                  subst hue
                  clear hnu
                  have k0 : wx.cell? ⟨q, 0, none⟩ = some (.int .i64 f) := HK.out.cell 0
                  have k1 : wx.cell? ⟨q, 1, none⟩ = some (.slice Au nu cu) := HK.out.cell 1
                  have HBQ3 := Lib.hid (show Below wq.heap.size wq wx from HB3.out.trans (HBQ.out.mono (by rw [HQ.out]; exact HB3.out.size)))
                  have HB6 := Lib.hid (show Below wq.heap.size wq (wx.alloc (.cells #[.int .i64 f, .slice Au nu cu] tM)) from HBQ3.out.alloc HBQ3.out.size _)
                  have HU6 := Lib.hid (show OwnInts (wx.alloc (.cells #[.int .i64 f, .slice Au nu cu] tM)) wq.heap.size tI (.slice Au nu cu) (pwB p) from ⟨(HU2.out.1.alloc _).mono (by have := HB3.out.size; have := HQ.out; omega), HU2.out.2⟩)
                  have HLC := Lib.hid (lit_cells wx tM (cellM (.slice Au nu cu) (f, pwB p)) #[.int .i64 f, .slice Au nu cu] rfl)
                  have HO6 := Lib.hid (OwnK.below HM.out.own HB6.out)
                  have HS6 := Lib.hid (HO.out.below HB6.out)
                  have hzl := HM.out.zlen
                  have hf64 : In64 f := by unfold In64; omega
                  have HF64 := Lib.hid hf64
                  clear hf64
                  go_wp2_with (at_builtin; go_loud (refine wpList_app1K T_monoP (ad := ⟨wx.heap.size, 0, none⟩) (W := (wx.alloc (.cells #[.int .i64 f, .slice Au nu cu] tM))) (c := cellM (.slice Au nu cu) (f, pwB p)) HO6.out (by rw [hzl, hml]; omega) (Nat.le_trans HB.out.size HB6.out.size) rfl (by intro y hy; simp [cellM] at hy; rcases hy with rfl | rfl <;> rfl) HLC.out rfl (by rfl) (by rfl) (by rfl) ?_; intro v7 w7 hn7 hg7; have HN7 := Lib.hid hn7; have HG7 := Lib.hid hg7; clear hn7 hg7))
                  go_roundw
                  case rel =>
                    have hps := HM.out.pushP (Nat.le_refl _) HB.out.size HB6.out HU6.out HF64.out HN7.out HG7.out
                    refine ⟨k + 1, us ++ [.slice Au nu cu], ms ++ [(f, pwB p)], by omega, by go_num, Lib.hid (optL_take HOP.out HTK.out HMM.out), by rw [List.length_append, hml]; rfl, Lib.hid hps, ?_, ?_⟩
                    · exact HS6.out.kept HG7.out.1 (HS6.out.bt.ne (OwnK.bt HO6.out) (by decide))
                    · exact HG7.out.below (HB.out.trans (HB6.out.mono HB.out.size)) (Nat.le_trans HB.out.size HB6.out.size) (fun b hb => HM.out.own.ge b hb)
                  case measure => simp [intOf]; omega
          · have hcb : (cd != 0) = true := by simpa using hcd
            have HNN := Lib.hid (HE.out.trans (optL_none (List.mem_of_getElem? HTK.out) (show rdMF t = none by rw [HRD.out, if_pos (.inr (.inl hcd))])))
            clear hfd hcd
            go_wp2_with fail
            go_ret2
            exact ⟨HBX.out, .inr ⟨rfl, HNN.out⟩⟩
      · have hke : k = ts.length := by omega
        subst hke
        have hop := HOP.out
        rw [List.take_length] at hop
        have HE2 := Lib.hid (HE.out.trans hop)
        clear hop
        go_wp2_with fail
        go_ret2
        exact ⟨HB.out, .inl ⟨_, ms, rfl, HE2.out, us, HM.out⟩⟩
end Go.Proofs.YtnnfjjadehgmeaaGreatDoor

set_option maxRecDepth 100000
set_option linter.unusedVariables false
set_option linter.unusedSimpArgs false
namespace Go.Proofs.YtnnfjjadehgmeaaGreatDoor
open Go.RowKit

end Go.Proofs.YtnnfjjadehgmeaaGreatDoor

set_option linter.unusedVariables false
set_option linter.unusedSimpArgs false
namespace Go.Proofs.YtnnfjjadehgmeaaGreatDoor
open Go.RowKit

theorem Blk.grow {w w' : World} {g : Nat} {t : TypeId} {cs : Array Value} {v v' : Value} (h : Blk w g t cs) (hg : Grow w w' v v') (hne : v.ownBlock ≠ some g) : Blk w' g t cs :=
  (hg.1.block g h.lt (fun e => hne e.symm)).trans h
theorem Blk.both {w : World} {g : Nat} {t : TypeId} {cs : Array Value} {u : Value} (h : Blk w g t cs) (h0 : cs[0]? = some u) : w.cell? ⟨g, 0, none⟩ = some u ∧ w.frozen? ⟨g, 0, none⟩ = false := ⟨(h.cell 0).trans h0, h.frozen 0⟩

section
variable {w0 wr w2 w3 : World} {p N : Nat} {va vb v1 r : Value} {vs : List Value} {rows : List (List Int)} {zs Bs : List Int}
end
end Go.Proofs.YtnnfjjadehgmeaaGreatDoor

set_option linter.unusedVariables false
set_option linter.unusedSimpArgs false
namespace Go.Proofs.YtnnfjjadehgmeaaGreatDoor
open Go.RowKit

section
variable {w0 w w' w1 : World} {p : Nat} {va vb v1 r : Value} {vs : List Value} {rows : List (List Int)} {zs Bs : List Int} {z : Int}
end
end Go.Proofs.YtnnfjjadehgmeaaGreatDoor

set_option linter.unusedVariables false
set_option linter.unusedSimpArgs false
namespace Go.Proofs.YtnnfjjadehgmeaaGreatDoor
open Go.RowKit

/-- rows va and numbers vb of one's own, all made since N -/
structure Two (w : World) (N : Nat) (va vb : Value) (vs : List Value) (rows : List (List Int)) (Bs : List Int) : Prop where
  own : Own w N tL va vs
  rows : RowsOwn w N w.heap.size tI vs rows
  ws : OwnInts w N tI vb Bs
  ap : ∀ (k : Nat) (u : Value), vs[k]? = some u → Apart u vb

section
variable {w w' w1 : World} {N p q : Nat} {va vb v1 r : Value} {vs : List Value} {rows : List (List Int)} {zs Bs : List Int} {z : Int}
theorem Two.nil (w : World) (N : Nat) : Two w N (.slice none 0 0) (.slice none 0 0) [] [] [] :=
  ⟨Own.nil _ _ _, RowsOwn.nil _ _ _ _, OwnInts.nil _ _ _, fun k u hu => by simp at hu⟩
theorem Two.step (h : Two w N va vb vs rows Bs) (hb : Below w.heap.size w w') : Two w' N va vb vs rows Bs :=
  ⟨h.own.below hb, (h.rows.below hb).mono (Nat.le_refl _) hb.size, h.ws.below hb, h.ap⟩
theorem Two.kept (h : Two w N va vb vs rows Bs) (hc : Chg p q w w') (hq : q ≤ N) : Two w' N va vb vs rows Bs :=
  ⟨h.own.of_block fun b hb => hc.block b (h.own.lt b hb) (.inr (Nat.le_trans hq (h.own.ge b hb))), (h.rows.mono (Nat.le_refl _) hc.size).kept hc (.inr hq), ⟨h.ws.1.of_block fun b hb => hc.block b (h.ws.1.lt b hb) (.inr (Nat.le_trans hq (h.ws.1.ge b hb))), h.ws.2⟩, h.ap⟩
end
section
variable {w0 w w' w1 : World} {p : Nat} {va vb v1 r : Value} {vs : List Value} {rows : List (List Int)} {zs Bs : List Int}
end
section
variable {w0 w w9 : World} {p : Nat} {va vb v6 v9 : Value} {vs : List Value} {rows : List (List Int)} {Bs : List Int}
end
end Go.Proofs.YtnnfjjadehgmeaaGreatDoor

set_option maxRecDepth 100000
set_option linter.unusedVariables false
set_option linter.unusedSimpArgs false
namespace Go.Proofs.YtnnfjjadehgmeaaGreatDoor
open Go.RowKit

section
variable {w w' : World} {B N p : Nat} {e t : TypeId} {v va vb : Value} {vs : List Value} {cs : Array Value} {rows : List (List Int)} {Bs : List Int}
theorem Own.ne_blk (h : Own w B e v vs) (hk : Blk w p t cs) (hne : e ≠ t) : v.ownBlock ≠ some p := by
  intro hb
  rcases h.cases with ⟨rfl, _⟩ | ⟨g, cap, cur, rfl, _, _, hg, _⟩
  · simp [Value.ownBlock] at hb
  · simp [Value.ownBlock] at hb
    subst hb
    have h2 : w.heap[g]? = some (.cells cs t (0, 0)) := hk
    rw [hg] at h2
    simp at h2
    exact hne h2.2
theorem Two.storeAt (h : Two w N va vb vs rows Bs) (hk : Blk w p t cs) (h1 : tL ≠ t) (h2 : tI ≠ t) (i : Nat) (u : Value) : Two (w.setCell ⟨p, i, none⟩ u) N va vb vs rows Bs := by
  have hh : ∀ b, b ≠ p → (w.setCell ⟨p, i, none⟩ u).heap[b]? = w.heap[b]? := fun b hb => Below.heap_setCell w ⟨p, i, none⟩ u b hb
  have hs : (w.setCell ⟨p, i, none⟩ u).heap.size = w.heap.size := by simp [World.setCell]
  refine ⟨h.own.of_block fun b hb => hh b (fun e => h.own.ne_blk hk h1 (e ▸ hb)), ?_, ⟨h.ws.1.of_block fun b hb => hh b (fun e => h.ws.1.ne_blk hk h2 (e ▸ hb)), h.ws.2⟩, h.ap⟩
  rw [hs]
  exact ⟨h.rows.1, fun k u' zs hu hz => ⟨⟨(h.rows.2.1 k u' zs hu hz).1.1.of_block fun b hb => hh b (fun e => (h.rows.2.1 k u' zs hu hz).1.1.ne_blk hk h2 (e ▸ hb)), (h.rows.2.1 k u' zs hu hz).1.2⟩, (h.rows.2.1 k u' zs hu hz).2⟩, h.rows.2.2⟩

/-- all that Two tells stands where only block p, of another type, has turned -/
theorem Two.other (h : Two w N va vb vs rows Bs) (hk : Blk w p t cs) (h1 : tL ≠ t) (h2 : tI ≠ t) (hg : w.grownBy w' (some p)) : Two w' N va vb vs rows Bs :=
  ⟨h.own.kept hg (.inr (h.own.ne_blk hk h1)), (h.rows.other hg fun k u hu => by
    have hx : rows[k]? = some (rows[k]'(by rw [← h.rows.1]; exact (List.getElem?_eq_some_iff.1 hu).1)) := List.getElem?_eq_getElem _
    exact .inr ((h.rows.2.1 k u _ hu hx).1.1.ne_blk hk h2)).mono (Nat.le_refl _) hg.size, ⟨h.ws.1.kept hg (.inr (h.ws.1.ne_blk hk h2)), h.ws.2⟩, h.ap⟩
end

section
variable {w0 w w' w1 : World} {p : Nat} {vc vb v1 r : Value} {vs : List Value} {rows : List (List Int)} {zs Bs : List Int} {z : Int}
end

section
variable {w0 w4 w w5 w6 : World} {p : Nat} {va vb v1 r : Value} {vs : List Value} {rows : List (List Int)} {zs : List Int}
end

section
variable {w0 w w5 w6 : World} {p : Nat} {va vb v1 r : Value} {vs : List Value} {rows : List (List Int)} {zs Bs : List Int}
end

section
variable {w0 w w' : World} {c0 c1 c2 : Array Value} {v v' : Value} {vs : List Value} {B p : Nat} {e : TypeId}
end
end Go.Proofs.YtnnfjjadehgmeaaGreatDoor

set_option linter.unusedVariables false
set_option linter.unusedSimpArgs false
namespace Go.Proofs.YtnnfjjadehgmeaaGreatDoor
open Go.RowKit

/-- a tableau of numbers, of any form -/
structure NumTab (A : List (List Int)) (Bs : List Int) : Prop where
  la : A.length ≤ 1000
  lb : Bs.length ≤ 1000
  rows : ∀ zs ∈ A, Nums zs ∧ zs.length ≤ 1000
  ws : Nums Bs

end Go.Proofs.YtnnfjjadehgmeaaGreatDoor

set_option maxRecDepth 100000
set_option linter.unusedVariables false
set_option linter.unusedSimpArgs false
namespace Go.Proofs.YtnnfjjadehgmeaaGreatDoor
open Go.RowKit

theorem ints_oneC (zs : List Int) : ∀ u ∈ ints zs, u.oneCell' = true := by
  intro u hu
  obtain ⟨z, _, rfl⟩ := List.mem_map.1 hu
  rfl

set_option maxHeartbeats 1000000 in
theorem s_l01Own (w : World) (v : Value) (zs : List Int) (ha : Ints w v zs) (hn : zs.length ≤ 4294967296) :
    Calls Tryz.prog 81 #[v] w fun e w' => ∃ r, e = .returned r ∧ OwnInts w' w.heap.size tI r zs ∧ Below w.heap.size w w' := by
  obtain ⟨A, c, rfl, l1, l2, h3⟩ := ha.open_
  have HA := Lib.hid ha
  clear h3 ha
  have OL := Lib.hid (own_lit w tI [] (by simp [maxLen]))
  have B1 := Lib.hid (below1 w (.cells #[] tI))
  go_enter Tryz.func81, Tryz.ntmps81
  go_wp2_with (at_builtin; refine wpList_appN T_int OL.out (HA.out.below B1.out).1 (by rw [ints_len]; simp; omega) B1.out.size (ints_oneC _) rfl (by rfl) (by rfl) (by rfl) ?_; intro v1 w2 hown1 hgr1)
  go_ret
  exact ⟨_, rfl, ⟨by simpa using hown1, HA.out.2⟩, hgr1.below B1.out (by simp) OL.out.ge⟩

end Go.Proofs.YtnnfjjadehgmeaaGreatDoor

set_option maxRecDepth 100000
set_option linter.unusedVariables false
set_option linter.unusedSimpArgs false
namespace Go.Proofs.YtnnfjjadehgmeaaGreatDoor
open Go.RowKit

set_option maxHeartbeats 400000 in
theorem s_l01Same (w : World) (a b : Value) (xs ys : List Int) (ha : Ints w a xs) (hb : Ints w b ys) :
    Calls Tryz.prog 82 #[a, b] w fun e w' => e = .returned (.bool (decide (xs = ys))) ∧ ∃ n, w' = w.drewN n := by
  obtain ⟨A, c, rfl, h1, h2, h3⟩ := ha.open_
  obtain ⟨B, d, rfl, g1, g2, g3⟩ := hb.open_
  clear ha hb
  have H3 := Lib.hid h3
  have G3 := Lib.hid g3
  clear h3 g3
  by_cases hl : xs.length = ys.length
  · have hl' : (((xs.length : Nat) : Int) != ((ys.length : Nat) : Int)) = false := by simp [hl]
    have HL := Lib.hid hl
    clear hl
    have g4 : ys.length ≤ xs.length := by rw [HL.out]; omega
    have g5 : xs.length ≤ ys.length := by rw [HL.out]; omega
    go_enter Tryz.func82, Tryz.ntmps82
    go_wp2
    go_loopw [5] (fun i wr => ∃ k n : Nat, k ≤ xs.length ∧ i = .int .i64 k ∧ xs.take k = ys.take k ∧ wr = w.drewN n) (fun i _ => xs.length - (intOf i).toNat)
    case atStart => exact ⟨0, 0, Nat.zero_le _, rfl, rfl, rfl⟩
    case round =>
      obtain ⟨k, n, hk, rfl, ht, rfl⟩ := hrel
      have HT := Lib.hid ht
      clear ht
      by_cases hlt : k < xs.length
      · obtain ⟨ad, z, rfl, hz, hz2, hc⟩ := H3.out k hlt
        obtain ⟨ad', y, rfl, hy, hy2, hc'⟩ := G3.out k (by omega)
        have HZ := Lib.hid hz
        have HY := Lib.hid hy
        clear hz hy hz2 hy2
        go_wp2
        go_quiet (fail)
        go_wp2
        · have hne : (z != y) = true := by assumption
          go_ret
          refine ⟨ret_bool ?_, _, World.drewN_drewN _ _ _⟩
          symm
          simp only [decide_eq_false_iff_not]
          rintro rfl
          have := HZ.out.symm.trans HY.out
          simp at this hne
          exact hne this
        · have hne : (z != y) = false := by assumption
          go_roundw
          case rel => exact ⟨k + 1, _, by omega, by go_num, take_eq_succ HT.out HZ.out HY.out (by simpa using hne), rfl⟩
          case measure => simp [intOf]; omega
      · have : k = xs.length := by omega
        subst this
        go_wp2
        go_ret
        refine ⟨ret_bool ?_, _, rfl⟩
        have e := HT.out
        rw [List.take_length, List.take_of_length_le (by omega)] at e
        simp [e]
  · have hl' : (((xs.length : Nat) : Int) != ((ys.length : Nat) : Int)) = true := by simp; omega
    have HL := Lib.hid hl
    clear hl
    go_enter Tryz.func82, Tryz.ntmps82
    go_wp2
    go_ret
    refine ⟨ret_bool ?_, 0, rfl⟩
    have := HL.out
    symm
    simp only [decide_eq_false_iff_not]
    rintro rfl
    exact this rfl

end Go.Proofs.YtnnfjjadehgmeaaGreatDoor

