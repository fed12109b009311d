/- Walk of the program: readPart. | Plain: the field that is read: its size, its number, its code. No walk. | The laws' marking and holding of fields, with the values: plain part and walks. -/
import Derived.Test.YtnnfjjadehgmeaaGreatDoorPz8
import Derived.Test.YtnnfjjadehgmeaaGreatDoorPz6
import Derived.Deep.RegionLaw
import Derived.Deep.CutRange
import Derived.Deep.CutBlock
import Derived.Test.YtnnfjjadehgmeaaGreatDoorPz5
set_option maxRecDepth 100000
set_option linter.unusedVariables false
set_option linter.unusedSimpArgs false
namespace Go.Proofs.YtnnfjjadehgmeaaGreatDoor
open Go.RowKit

theorem T_monoP : ElemK Tryz.prog 39 tM (.agg #[.int .i64 0, .slice none 0 0]) 2 32 := ⟨Tryz.underlying39, by kernel_rfl, rfl, by omega, by omega⟩
theorem T_intP : ElemT Tryz.prog 42 2 (.int .i64 0) 8 := ⟨Tryz.underlying42, by kernel_rfl, rfl, by omega⟩
theorem OMd.pushP' {W W6 W7 : World} {B C : Nat} {v v' u : Value} {us : List Value} {ms : List Mono} {m : Mono} (h : OMd W B C v us ms) (hC : C ≤ W.heap.size) (h6 : Below W.heap.size W W6) (hu : OwnInts W6 B tI u m.2) (hap : ∀ (k : Nat) (x : Value), us[k]? = some x → Apart x u) (hm : In64 m.1)
    (hn : OwnK W7 B tM 2 v' (List.zipWith cellM us ms ++ [cellM u m])) (hg : Grow W6 W7 v v') : OMd W7 B W7.heap.size v' (us ++ [u]) (ms ++ [m]) := by
  have s6 := h6.size
  have s7 := hg.1.size
  have hbt : BT W6 tM v := (OwnK.below h.own h6).bt
  refine ⟨by rw [List.zipWith_append h.len]; exact hn, fun b hb => OwnK.lt hn b hb, ?_, fun x hx => ?_⟩
  · rw [List.map_append]
    have hr := (h.rows.below h6).other hg.1 (fun k x hx => by
      have hz : (ms.map (·.2))[k]? = some ((ms.map (·.2))[k]'(by rw [← h.rows.1]; exact (List.getElem?_eq_some_iff.1 hx).1)) := List.getElem?_eq_getElem _
      exact (((h.rows.below h6).2.1 k x _ hx hz).1.1.bt).ne hbt (by decide))
    have hu7 : OwnInts W7 B tI u m.2 := hu.kept hg.1 (hu.1.bt.ne hbt (by decide))
    exact (hr.mono (Nat.le_refl _) (by omega)).snoc (OI.of hu7) hap
  · rcases List.mem_append.1 hx with hx | hx
    · exact h.in_ x hx
    · rw [List.mem_singleton.1 hx]; exact hm
theorem OMd.pushP {W W6 W7 : World} {B C : Nat} {v v' u : Value} {us : List Value} {ms : List Mono} {m : Mono} (h : OMd W B C v us ms) (hC : C ≤ W.heap.size) (hB : B ≤ W.heap.size) (h6 : Below W.heap.size W W6) (hu : OwnInts W6 W.heap.size tI u m.2) (hm : In64 m.1)
    (hn : OwnK W7 B tM 2 v' (List.zipWith cellM us ms ++ [cellM u m])) (hg : Grow W6 W7 v v') : OMd W7 B W7.heap.size v' (us ++ [u]) (ms ++ [m]) :=
  h.pushP' hC h6 (hu.mono hB) (fun k x hx => by
    have hz : (ms.map (·.2))[k]? = some ((ms.map (·.2))[k]'(by rw [← h.rows.1]; exact (List.getElem?_eq_some_iff.1 hx).1)) := List.getElem?_eq_getElem _
    have ho := h.rows.2.1 k x _ hx hz
    exact apart_of_lt (B := W.heap.size) (fun b hb => Nat.lt_of_lt_of_le (ho.2 b hb) hC) (fun b hb => hu.1.ge b hb)) hm hn hg
theorem OMd.newP (w : World) : OMd (w.alloc (.cells #[] tM)) w.heap.size (w.heap.size + 1) (.slice (some ⟨w.heap.size, 0, none⟩) 0 0) [] [] where
  own := OwnK.lit w tM 2 [] (fun c hc => by simp at hc) (by simp [maxLen]) #[] rfl
  lt b hb := by simp [Value.ownBlock] at hb; omega
  rows := RowsOwn.nil _ _ _ _
  in_ m hm := by simp at hm
theorem str_back (x : ByteArray) : Value.string x = strB x.data.toList := by
  unfold strB
  congr 1
theorem lib_Split (b : UInt8) (l : List UInt8) (w : World) (hl : l.length ≤ 4294967000) (h : LibOK w) :
    Calls Tryz.prog 21 #[strB l, .string ⟨#[b]⟩] w fun e w' => ∃ g c, e = .returned (.slice (some ⟨g, 0, none⟩) (splB b l).length c) ∧ Own w' w.heap.size tStr (.slice (some ⟨g, 0, none⟩) (splB b l).length c) (strs (splB b l)) ∧ Below w.heap.size w w' := by
  obtain ⟨m, hm⟩ := h.mx
  refine (Any.strings_Split Tryz.lays146 (by kernel_rfl) ⟨l.toArray⟩ ⟨#[b]⟩ m w (by show l.toArray.size < 4294967281; simp; omega) hm (Nat.le_refl 1)).mono fun e w' ⟨he, hw⟩ => ?_
  have hsp := splitB_splB b _ ⟨l.toArray⟩ rfl
  have hln := Lib.splitB_all ⟨#[b]⟩ (Nat.le_refl 1) 0 _ ⟨l.toArray⟩ rfl
  generalize Lib.splitB ⟨#[b]⟩ 0 (Lib.countB ⟨l.toArray⟩ ⟨#[b]⟩) ⟨l.toArray⟩ = xs at hsp hln hw
  have hsp2 : xs.map (·.data.toList) = splB b l := hsp
  have hst : xs.map Value.string = strs (splB b l) := by
    rw [← hsp2]
    unfold strs
    rw [List.map_map]
    exact List.map_congr_left fun x _ => str_back x
  have hlen : (splB b l).length = xs.length := by rw [← hsp2, List.length_map]
  rw [hst] at hw
  rw [hlen, hln]
  refine ⟨w.heap.size, _, he, ?_, by rw [hw]; exact below1 _ _⟩
  have ho := own_lit w tStr (strs (splB b l)) (by rw [strs_len]; have := splB_len b l; simp only [maxLen]; omega)
  rw [strs_len, hlen, hln] at ho
  rw [hw]
  exact ho
theorem ite3_bd {C D : Prop} [Decidable C] [Decidable D] (x y : Int) : 0 ≤ (if C then ((0 : Int), (6 : Int)) else if D then (0, 5) else (nofR x y, 0)).1 ∧ (if C then ((0 : Int), (6 : Int)) else if D then (0, 5) else (nofR x y, 0)).1 ≤ 10006 := by
  have h1 : 0 ≤ nofR x y := Int.emod_nonneg _ (by decide)
  have h2 : nofR x y < 10007 := Int.emod_lt_of_pos _ (by decide)
  by_cases hC : C
  · rw [if_pos hC]; exact ⟨Int.le_refl _, by simp⟩
  · rw [if_neg hC]
    by_cases hD : D
    · rw [if_pos hD]; exact ⟨Int.le_refl _, by simp⟩
    · rw [if_neg hD]; exact ⟨h1, by show nofR x y ≤ 10006; omega⟩
theorem pnF_bd (l : List UInt8) : 0 ≤ (pnF l).1 ∧ (pnF l).1 ≤ 10006 := by
  unfold pnF
  exact ite3_bd _ _
theorem pwB_in (l : List UInt8) : ∀ z ∈ pwB l, In64 z := by
  intro z hz
  unfold pwB at hz
  obtain ⟨b, -, rfl⟩ := List.mem_map.1 hz
  have := b.toNat_lt
  unfold In64
  constructor <;> omega
theorem pwB_len (l : List UInt8) : (pwB l).length = l.length := by unfold pwB; simp
theorem Blk.growP {w w' : World} {g : Nat} {t : TypeId} {cs : Array Value} {v v' : Value} (h : Blk w g t cs) (hg : Grow w w' v v') (hne : v.ownBlock ≠ some g) : Blk w' g t cs :=
  (hg.1.block g h.lt (fun e => hne e.symm)).trans h
theorem step_app1gP {P : Program} {ops : Array Oper} {o : Oper} {a : Act} {K : Act → World → Prop} {Q : Exit → Act → World → Prop} {E : Prop} {s x : Operand} {t : TypeId}
    {e : TypeId} {z : Value} {bytes : Nat} {B : Nat} {v : Value} {vs : List Value} {W : World} {u : Value} {ad : Addr}
    (T : ElemT P t e z bytes) (hown : Own W B e v vs) (hlen : vs.length < 1099511627776) (hB : B ≤ W.heap.size) (hu : u.oneCell' = true)
    (hgd : o.guard = none) (ho : o.op = .call { callee := .builtin .append, args := #[s, x], argTypes := #[t, t] }) (hs : a.eval s = v)
    (hx : a.eval x = .slice (some ad) 1 1) (hc : W.cell? ad = some u)
    (h : ∀ v' w', Own w' B e v' (vs ++ [u]) → Grow W w' v v' → K (a.put o.dst v') w') :
    if Region.wanted o (yielded ops a.tmps) = true then Oper.wp P o a W K Q else E := by
  have hw : Region.wanted o (yielded ops a.tmps) = true := by simp [Region.wanted, hgd]
  rw [if_pos hw]
  obtain ⟨i, hi, hz, h1, h2⟩ := info_parts T.info
  have hby := T.small
  obtain ⟨v', w', hrun, r1, r2, _, r3⟩ := run_append_own_at (P := P) W B t o.type e i z 1 bytes T.under hi hz h1 h2 (by rw [T.one]; rfl) (by omega) v vs.length vs hown ad 1 1 [u] rfl
    (fun j u' hj => by
      cases j with
      | zero =>
        simp at hj; subst hj
        exact hc
      | succ j => simp at hj) (by simpa using hu) (by simp only [maxLen]; omega) (by have := Nat.mul_le_mul_left (vs.length + 1) hby; omega) hB
  unfold Oper.wp execOp
  simp only [ho, resolve, invoke, builtin, Sem.run_bind, Sem.run_pure, Result.andThen_ok, List.map_toArray, List.map_cons, List.map_nil, hs, hx, hrun]
  refine h v' w' ?_ ⟨r2, ?_⟩
  · unfold Own; simpa using r1
  · rcases r3 with r3 | r3
    · exact .inl r3
    · exact .inr ⟨_, r3, Nat.le_refl _⟩
theorem pwB_take {p : List UInt8} {j : Nat} {b : UInt8} (h : p[j]? = some b) : ints ((pwB p).take j) ++ [.int .i64 ((b.toNat : Int) - 48)] = ints ((pwB p).take (j + 1)) := by
  have h2 : (pwB p)[j]? = some ((b.toNat : Int) - 48) := by unfold pwB; rw [List.getElem?_map, h]; rfl
  rw [List.take_add_one, h2]
  simp [ints]
/-- one exponent more -/
theorem pw_round {w3 wx w6 : World} {q j : Nat} {f : Int} {u v6 : Value} {p : List UInt8} {b : UInt8} (hk : Blk wx q tM #[.int .i64 f, u]) (hu : OwnInts wx (q + 1) tI u ((pwB p).take j)) (hb : Below q w3 wx) (hp : p[j]? = some b)
    (hn : Own w6 (q + 1) tI v6 (ints ((pwB p).take j) ++ [.int .i64 ((b.toNat : Int) - 48)])) (hg : Grow wx w6 u v6) :
    Blk (w6.setCell ⟨q, 1, none⟩ v6) q tM #[.int .i64 f, v6] ∧ OwnInts (w6.setCell ⟨q, 1, none⟩ v6) (q + 1) tI v6 ((pwB p).take (j + 1)) ∧ Below q w3 (w6.setCell ⟨q, 1, none⟩ v6) ∧ q + 1 ≤ (w6.setCell ⟨q, 1, none⟩ v6).heap.size := by
  have hne : u.ownBlock ≠ some q := fun e => by have := hu.1.ge q e; omega
  have hk6 := hk.growP hg hne
  have hb6 : Below q w3 w6 := hg.below hb (by have := hk.lt; omega) (fun b hb => by have := hu.1.ge b hb; omega)
  rw [pwB_take hp] at hn
  have hs : (w6.setCell ⟨q, 1, none⟩ v6).heap.size = w6.heap.size := by simp [World.setCell]
  refine ⟨hk6.set_ 1 v6, ⟨hn.of_block fun b hb => Below.heap_setCell w6 ⟨q, 1, none⟩ v6 b (fun e => by have := hn.ge b hb; simp only at e; omega), fun z hz => pwB_in p z (List.mem_of_mem_take hz)⟩, ?_, by rw [hs]; exact hk6.lt⟩
  exact hb6.trans ⟨rfl, rfl, rfl, by rw [hs]; exact Nat.le_refl _, fun k hk => Below.heap_setCell w6 ⟨q, 1, none⟩ v6 k (fun e => by simp only at e; omega)⟩
/-- what readPart answers -/
def RdRes (w w' : World) (e : Ending) (r : Option (List Mono)) : Prop := (∃ v ms, e = .returned (.tuple #[v, .bool true]) ∧ r = some ms ∧ OMo w' w.heap.size w'.heap.size v ms) ∨ (e = .returned (.tuple #[.slice none 0 0, .bool false]) ∧ r = none)
set_option maxHeartbeats 8000000 in
theorem i_readPart (w : World) (l : List UInt8) (hl : l.length ≤ 4294967000) (h : LibOK w) :
    Calls Tryz.prog 23 #[strB l] w fun e w' => Below w.heap.size w w' ∧ RdRes w w' e (rdP rdMF l) := by
  obtain ⟨w0, hw0⟩ : ∃ w0, w0 = w.alloc (.cells #[] tM) := ⟨_, rfl⟩
  have HN0 := Lib.hid (show OMd w0 w.heap.size (w.heap.size + 1) (.slice (some ⟨w.heap.size, 0, none⟩) 0 0) [] [] by rw [hw0]; exact OMd.newP w)
  have HB0 := Lib.hid (show Below w.heap.size w w0 by rw [hw0]; exact below1 w _)
  have HZ0 := Lib.hid (show w.heap.size + 1 ≤ w0.heap.size by rw [hw0]; exact Nat.le_of_eq (Array.size_push _).symm)
  have HL0 := Lib.hid (h.below HB0.out)
  have HLW := Lib.hid h
  have HRP := Lib.hid (show rdP rdMF l = if l = [48] then some [] else optL rdMF (splB 43 l) from rfl)
  clear h
  go_enter Tryz.func23, Tryz.ntmps23
  go_upto_region 2 with fail
  first | rw [← hw0] | skip
  clear hw0
  by_cases hz : l = [48]
  · subst hz
    have HE := Lib.hid (show rdP rdMF [48] = some [] by rw [HRP.out, if_pos rfl])
    go_wp2_with fail
    go_ret2
    exact ⟨HB0.out, .inl ⟨_, [], rfl, HE.out, [], HN0.out.mono (Nat.le_refl _) HZ0.out⟩⟩
  · have hzb : (l == [48]) = false := beq_eq_false_iff_ne.2 hz
    have HE := Lib.hid (show rdP rdMF l = optL rdMF (splB 43 l) by rw [HRP.out, if_neg hz])
    have HSPL := Lib.hid (lib_Split 43 l w0 hl HL0.out)
    have HTL := Lib.hid (splB_mem_len 43 l)
    have hnl := splB_len 43 l
    generalize splB 43 l = ts at HE HSPL HTL hnl
    clear hz HRP
    go_wp2_with (go_at_call 21; refine HSPL.out.mono ?_; rintro e w1 ⟨g, c, rfl, ho1, hb1⟩; have HO1 := Lib.hid ho1; have HB1 := Lib.hid hb1; clear ho1 hb1)
    have HN1 := Lib.hid ((HN0.out.agree (Same.of_below HB1.out HZ0.out)).mono (Nat.le_refl _) (Nat.le_trans HZ0.out HB1.out.size))
    have HBW := Lib.hid (HB0.out.trans (HB1.out.mono HB0.out.size))
    clear HN0 HSPL
    go_loopw [4, 21] (fun o i wr => ∃ (k : Nat) (us : List Value) (ms : List Mono), k ≤ ts.length ∧ i = .int .i64 k ∧ Hid (optL rdMF (ts.take k) = some ms) ∧ ms.length = k ∧ Hid (OMd wr w.heap.size wr.heap.size o us ms) ∧ Own wr w.heap.size tStr (.slice (some ⟨g, 0, none⟩) ts.length c) (strs ts) ∧ Below w.heap.size w wr) (fun _ i _ => ts.length - (intOf i).toNat)
    case atStart => exact ⟨0, [], [], Nat.zero_le _, rfl, Lib.hid rfl, rfl, HN1, HO1.out.mono HB0.out.size, HBW.out⟩
    case round =>
      obtain ⟨k, us, ms, hk, rfl, HOP, hml, HM, ho, hb⟩ := hrel
      rename World => wq
      clear HN1 HO1 HB1 HBW
      have HO := Lib.hid ho
      have HB := Lib.hid hb
      clear ho hb
      obtain ⟨Ao, co, hoe, -, -⟩ := HM.out.open_
      rw [hml] at hoe
      subst hoe
      by_cases hlt : k < ts.length
      · obtain ⟨t, ht⟩ : ∃ t, ts[k]? = some t := ⟨_, List.getElem?_eq_getElem hlt⟩
        have gk : wq.cell? ⟨g, k, none⟩ = some (strB t) := strs_cell HO.out ht
        have hki : (k : Int) < (ts.length : Int) := by omega
        have htl := HTL.out t (List.mem_of_getElem? ht)
        have HTK := Lib.hid ht
        have HLQ := Lib.hid (HLW.out.below HB.out)
        have hcl := cutB_len 58 t
        have HCU := Lib.hid (fun W (hW : LibOK W) => lib_Cut 58 t W (by omega) hW)
        have HRD := Lib.hid (show rdMF t = if (cutB 58 t).2.2 = false ∨ (pnF (cutB 58 t).1).2 ≠ 0 ∨ 3 < (cutB 58 t).2.1.length then none else some ((pnF (cutB 58 t).1).1, pwB (cutB 58 t).2.1) from rfl)
        generalize cutB 58 t = cu at hcl HCU HRD
        obtain ⟨a, p, fd⟩ := cu
        simp only at hcl HCU HRD
        have hpb := pnF_bd a
        have HPN := Lib.hid (fun W (hW : LibOK W) => i_ParseNumber W a (by omega) hW)
        generalize pnF a = pn at hpb HPN HRD
        obtain ⟨f, cd⟩ := pn
        simp only at hpb HPN HRD
        clear ht
        go_upto_region 9 with (first
          | (go_at_call 46; refine (HCU.out _ (by exact HLQ.out)).mono ?_; rintro e w2 ⟨rfl, n2, rfl⟩)
          | (go_at_call 47; refine (HPN.out _ (by exact HLQ.out.below (below_drewN (Below.refl _ _) _))).mono ?_; rintro e w3 ⟨rfl, hb3⟩; have HB3 := Lib.hid (show Below wq.heap.size wq w3 from (below_drewN (Below.refl _ _) _).trans hb3); clear hb3))
        clear gk HCU HPN
        have HBX := Lib.hid (HB.out.trans (HB3.out.mono HB.out.size))
        cases hfd : fd with
        | false =>
          have HNN := Lib.hid (HE.out.trans (optL_none (List.mem_of_getElem? HTK.out) (show rdMF t = none by rw [HRD.out, hfd, if_pos (.inl rfl)])))
          clear hfd
          go_wp2_with fail
          go_ret2
          exact ⟨HBX.out, .inr ⟨rfl, HNN.out⟩⟩
        | true =>
          by_cases hcd : cd = 0
          · have hcb : (cd != 0) = false := by simpa using hcd
            by_cases hp3 : 3 < p.length
            · have hp3i : (3 : Int) < (p.length : Int) := by omega
              have HNN := Lib.hid (HE.out.trans (optL_none (List.mem_of_getElem? HTK.out) (show rdMF t = none by rw [HRD.out, if_pos (.inr (.inr hp3))])))
              clear hfd hcd hp3
              go_wp2_with fail
              go_ret2
              exact ⟨HBX.out, .inr ⟨rfl, HNN.out⟩⟩
            · have hp3i : ¬ (3 : Int) < (p.length : Int) := by omega
              have HMM := Lib.hid (show rdMF t = some (f, pwB p) by rw [HRD.out, if_neg (fun h => h.elim (fun h => by rw [hfd] at h; cases h) fun h => h.elim (fun h => h hcd) hp3)])
              have hpl : p.length ≤ 3 := by omega
              clear hfd hcd hp3 HRD
              obtain ⟨w4, hw4⟩ : ∃ w4, w4 = w3.alloc (.cells #[.int .i64 f, .slice none 0 0] tM) := ⟨_, rfl⟩
              have KM := Lib.hid (show Blk w4 w3.heap.size tM #[.int .i64 f, .slice none 0 0] by rw [hw4]; exact Blk.new _ _ _)
              have HB4 := Lib.hid (show Below w3.heap.size w3 w4 by rw [hw4]; exact below1 _ _)
              go_upto_region 12 with fail
              first | rw [← hw4] | skip
              clear hw4
              go_wp2_with fail
              obtain ⟨q, hq⟩ : ∃ q, q = w3.heap.size := ⟨_, rfl⟩
              rw [← hq] at KM HB4 ⊢
              have HQ := Lib.hid hq
              clear hq
              go_loopw [51] (fun i wx => ∃ (j : Nat) (u : Value), j ≤ p.length ∧ i = .int .i64 j ∧ Hid (Blk wx q tM #[.int .i64 f, u]) ∧ Hid (OwnInts wx (q + 1) tI u ((pwB p).take j)) ∧ Hid (Below q w3 wx) ∧ Hid (q + 1 ≤ wx.heap.size)) (fun i _ => p.length - (intOf i).toNat)
              case atStart => exact ⟨0, .slice none 0 0, Nat.zero_le _, rfl, KM, Lib.hid (OwnInts.nil _ _ _), HB4, Lib.hid KM.out.lt⟩
              case round =>
                obtain ⟨j, u, hj, rfl, HK, HU, HBQ, HSZ⟩ := hrel
                rename World => wx
                clear KM HB4
                by_cases hlt2 : j < p.length
                · obtain ⟨b, hb⟩ : ∃ b, p[j]? = some b := ⟨_, List.getElem?_eq_getElem hlt2⟩
                  have hix := str_ix hb
                  have hjp : (j : Int) < (p.length : Int) := by omega
                  have hol := HU.out.1.cells.open_
                  have hlen : (ints ((pwB p).take j)).length = j := by rw [ints_len, List.length_take, pwB_len]; omega
                  rw [hlen] at hol
                  obtain ⟨Au, cu, rfl, -, -⟩ := hol
                  have k1 : wx.cell? ⟨q, 1, none⟩ = some (.slice Au j cu) := HK.out.cell 1
                  have f1 : wx.frozen? ⟨q, 1, none⟩ = false := HK.out.frozen 1
                  have k1a : ∀ o, (wx.alloc o).cell? ⟨q, 1, none⟩ = some (.slice Au j cu) := fun o => (HK.out.alloc o).cell 1
                  have hww : IntKind.i64.wrap (IntKind.i64.wrap (b.toNat : Int) - 48) = (b.toNat : Int) - 48 := by have := b.toNat_lt; rw [IntWalk.i64_in (b.toNat : Int) (by omega)]; exact IntWalk.i64_in _ (by omega)
                  have HWW := Lib.hid hww
                  clear hww
                  have HPJ := Lib.hid hb
                  clear hb
                  go_upto_region 15 with fail
                  have HCA := Lib.hid (show ((wx.alloc (.cells #[.int .i64 (IntKind.i64.wrap (IntKind.i64.wrap (b.toNat : Int) - 48))] tI)).drew).cell? ⟨wx.heap.size, 0, none⟩ = some (.int .i64 (IntKind.i64.wrap (IntKind.i64.wrap (b.toNat : Int) - 48))) from ((Blk.new wx _ _).drewN 1).cell 0)
                  have HKA := Lib.hid (show Blk ((wx.alloc (.cells #[.int .i64 (IntKind.i64.wrap (IntKind.i64.wrap (b.toNat : Int) - 48))] tI)).drew) q tM #[.int .i64 f, .slice Au j cu] from (HK.out.alloc _).drewN 1)
                  have HUA := Lib.hid (show OwnInts ((wx.alloc (.cells #[.int .i64 (IntKind.i64.wrap (IntKind.i64.wrap (b.toNat : Int) - 48))] tI)).drew) (q + 1) tI (.slice Au j cu) ((pwB p).take j) from ⟨(HU.out.1.alloc _).drewN 1, HU.out.2⟩)
                  have HBA := Lib.hid (show Below q w3 ((wx.alloc (.cells #[.int .i64 (IntKind.i64.wrap (IntKind.i64.wrap (b.toNat : Int) - 48))] tI)).drew) from (HBQ.out.alloc (by have := HSZ.out; omega) _).drew)
                  have HZA := Lib.hid (show q + 1 ≤ ((wx.alloc (.cells #[.int .i64 (IntKind.i64.wrap (IntKind.i64.wrap (b.toNat : Int) - 48))] tI)).drew).heap.size from by have := HSZ.out; show q + 1 ≤ (wx.alloc _).heap.size; simp; omega)
                  have hne : (Value.slice Au j cu).ownBlock ≠ some q := fun e => by have := HU.out.1.ge q e; omega
                  have HNE := Lib.hid hne
                  clear hne
                  go_region_law ((refine step_app1gP T_intP (W := ((wx.alloc (.cells #[.int .i64 (IntKind.i64.wrap (IntKind.i64.wrap (b.toNat : Int) - 48))] tI)).drew)) (u := .int .i64 (IntKind.i64.wrap (IntKind.i64.wrap (b.toNat : Int) - 48))) (ad := ⟨wx.heap.size, 0, none⟩) (B := q + 1) (v := .slice Au j cu) (vs := ints ((pwB p).take j)) HUA.out.1 (by rw [hlen]; omega) HZA.out (by rfl) rfl (by rfl) (by rfl) (by rfl) HCA.out ?_; intro v6 w6 hown6 hgr6; rw [HWW.out] at hown6; obtain ⟨A6, c6, hv6, -⟩ := hown6.cells.open_; rw [List.length_append, hlen, List.length_singleton] at hv6; subst hv6; have HPR := Lib.hid (pw_round HKA.out HUA.out HBA.out HPJ.out hown6 hgr6); have hk6 := HKA.out.growP hgr6 HNE.out; have f6 : w6.frozen? ⟨q, 1, none⟩ = false := hk6.frozen 1; have k6 : w6.cell? ⟨q, 1, none⟩ = some (.slice Au j cu) := hk6.cell 1; clear hk6 hown6 hgr6))
                  all_goals
                    go_wp2_with fail
                    go_roundw
                    case rel =>
                      first
                      | exact ⟨j + 1, _, by omega, by go_num, Lib.hid HPR.out.1, Lib.hid HPR.out.2.1, Lib.hid HPR.out.2.2.1, Lib.hid HPR.out.2.2.2⟩
                      | exact ⟨j + 1, _, by omega, by go_num, Lib.hid (HPR.out.1.drewN 1), Lib.hid HPR.out.2.1, Lib.hid HPR.out.2.2.1.drew, Lib.hid HPR.out.2.2.2⟩
                    case measure => simp [intOf]; omega
                · have hje : j = p.length := by omega
                  subst hje
                  have hu2 := HU.out
                  rw [List.take_of_length_le (by rw [pwB_len]; exact Nat.le_refl _)] at hu2
                  have HU2 := Lib.hid hu2
                  clear hu2 HU
                  obtain ⟨Au, cu, hue, -, -⟩ := HU2.out.1.cells.open_
                  obtain ⟨nu, hnu⟩ : ∃ nu, nu = (ints (pwB p)).length := ⟨_, rfl⟩
                  rw [← hnu] at hue
                  subst hue
                  clear hnu
                  have k0 : wx.cell? ⟨q, 0, none⟩ = some (.int .i64 f) := HK.out.cell 0
                  have k1 : wx.cell? ⟨q, 1, none⟩ = some (.slice Au nu cu) := HK.out.cell 1
                  have HBQ3 := Lib.hid (show Below wq.heap.size wq wx from HB3.out.trans (HBQ.out.mono (by rw [HQ.out]; exact HB3.out.size)))
                  have HB6 := Lib.hid (show Below wq.heap.size wq (wx.alloc (.cells #[.int .i64 f, .slice Au nu cu] tM)) from HBQ3.out.alloc HBQ3.out.size _)
                  have HU6 := Lib.hid (show OwnInts (wx.alloc (.cells #[.int .i64 f, .slice Au nu cu] tM)) wq.heap.size tI (.slice Au nu cu) (pwB p) from ⟨(HU2.out.1.alloc _).mono (by have := HB3.out.size; have := HQ.out; omega), HU2.out.2⟩)
                  have HLC := Lib.hid (lit_cells wx tM (cellM (.slice Au nu cu) (f, pwB p)) #[.int .i64 f, .slice Au nu cu] rfl)
                  have HO6 := Lib.hid (OwnK.below HM.out.own HB6.out)
                  have HS6 := Lib.hid (HO.out.below HB6.out)
                  have hzl := HM.out.zlen
                  have hf64 : In64 f := by unfold In64; omega
                  have HF64 := Lib.hid hf64
                  clear hf64
                  go_wp2_with (at_builtin; go_loud (refine wpList_app1K T_monoP (ad := ⟨wx.heap.size, 0, none⟩) (W := (wx.alloc (.cells #[.int .i64 f, .slice Au nu cu] tM))) (c := cellM (.slice Au nu cu) (f, pwB p)) HO6.out (by rw [hzl, hml]; omega) (Nat.le_trans HB.out.size HB6.out.size) rfl (by intro y hy; simp [cellM] at hy; rcases hy with rfl | rfl <;> rfl) HLC.out rfl (by rfl) (by rfl) (by rfl) ?_; intro v7 w7 hn7 hg7; have HN7 := Lib.hid hn7; have HG7 := Lib.hid hg7; clear hn7 hg7))
                  go_roundw
                  case rel =>
                    have hps := HM.out.pushP (Nat.le_refl _) HB.out.size HB6.out HU6.out HF64.out HN7.out HG7.out
                    refine ⟨k + 1, us ++ [.slice Au nu cu], ms ++ [(f, pwB p)], by omega, by go_num, Lib.hid (optL_take HOP.out HTK.out HMM.out), by rw [List.length_append, hml]; rfl, Lib.hid hps, ?_, ?_⟩
                    · exact HS6.out.kept HG7.out.1 (HS6.out.bt.ne (OwnK.bt HO6.out) (by decide))
                    · exact HG7.out.below (HB.out.trans (HB6.out.mono HB.out.size)) (Nat.le_trans HB.out.size HB6.out.size) (fun b hb => HM.out.own.ge b hb)
                  case measure => simp [intOf]; omega
          · have hcb : (cd != 0) = true := by simpa using hcd
            have HNN := Lib.hid (HE.out.trans (optL_none (List.mem_of_getElem? HTK.out) (show rdMF t = none by rw [HRD.out, if_pos (.inr (.inl hcd))])))
            clear hfd hcd
            go_wp2_with fail
            go_ret2
            exact ⟨HBX.out, .inr ⟨rfl, HNN.out⟩⟩
      · have hke : k = ts.length := by omega
        subst hke
        have hop := HOP.out
        rw [List.take_length] at hop
        have HE2 := Lib.hid (HE.out.trans hop)
        clear hop
        go_wp2_with fail
        go_ret2
        exact ⟨HB.out, .inl ⟨_, ms, rfl, HE2.out, us, HM.out⟩⟩
end Go.Proofs.YtnnfjjadehgmeaaGreatDoor

set_option maxRecDepth 100000
set_option linter.unusedVariables false
set_option linter.unusedSimpArgs false
namespace Go.Proofs.YtnnfjjadehgmeaaGreatDoor
open Go.RowKit

theorem optL_mem {α β : Type} {M : α → Option β} : ∀ {xs : List α} {ms : List β} {m : β}, optL M xs = some ms → m ∈ ms → ∃ x ∈ xs, M x = some m
  | [], ms, m, h, hm => by
    rw [optL] at h
    injection h with h
    subst h
    simp at hm
  | x :: r, ms, m, h, hm => by
    rw [optL] at h
    cases hx : M x with
    | none => rw [hx] at h; cases h
    | some y =>
      rw [hx] at h
      simp only at h
      cases hr : optL M r with
      | none => rw [hr] at h; cases h
      | some ys =>
        rw [hr] at h
        injection h with h
        subst h
        rcases List.mem_cons.1 hm with rfl | hm
        · exact ⟨x, by simp, hx⟩
        · obtain ⟨z, hz, hz2⟩ := optL_mem hr hm
          exact ⟨z, by simp [hz], hz2⟩
/-- what a reader of monomials may promise: no more exponents than bytes -/
def Thin (M : List UInt8 → Option Mono) : Prop := ∀ t m, M t = some m → m.2.length ≤ t.length
theorem thinF : Thin rdMF := by
  intro t m h
  unfold rdMF at h
  split at h
  · cases h
  · injection h with h
    subst h
    unfold pwB
    rw [List.length_map]
    exact (cutB_len 58 t).2
theorem thinR : Thin rdMR := by
  intro t m h
  unfold rdMR at h
  split at h
  · cases h
  · injection h with h
    subst h
    unfold pwB
    rw [List.length_map]
    show ((splB 58 t).getD 1 []).length ≤ t.length
    rw [List.getD]
    cases hg : (splB 58 t)[1]? with
    | none => simp
    | some p => exact splB_mem_len 58 t p (List.mem_of_getElem? hg)
theorem rdP_size {M : List UInt8 → Option Mono} (hM : Thin M) {x : List UInt8} {ms : List Mono} (h : rdP M x = some ms) : ms.length ≤ x.length + 1 ∧ ∀ m ∈ ms, m.2.length ≤ x.length := by
  unfold rdP at h
  split at h
  · injection h with h
    subst h
    simp
  · refine ⟨?_, fun m hm => ?_⟩
    · have := splB_len 43 x
      rw [optL_len h]; exact this
    · obtain ⟨y, hy, hy2⟩ := optL_mem h hm
      exact Nat.le_trans (hM y m hy2) (splB_mem_len 43 x y hy)
theorem rdF_size {M : List UInt8 → Option Mono} (hM : Thin M) {l : List UInt8} {pss : List (List Mono)} (h : rdF M l = some pss) : pss.length ≤ l.length + 1 ∧ ∀ ms ∈ pss, ms.length ≤ l.length + 1 ∧ ∀ m ∈ ms, m.2.length ≤ l.length := by
  unfold rdF at h
  refine ⟨?_, fun ms hms => ?_⟩
  · have := splB_len 59 l
    rw [optL_len h]; exact this
  · obtain ⟨x, hx, hx2⟩ := optL_mem h hms
    have h1 := rdP_size hM hx2
    have h2 := splB_mem_len 59 l x hx
    exact ⟨by omega, fun m hm => Nat.le_trans (h1.2 m hm) h2⟩
theorem pnR_rg (l : List UInt8) : 0 ≤ (pnR l).1 ∧ (pnR l).1 ≤ 10006 := by
  unfold pnR
  have h1 : ∀ x y : Int, 0 ≤ nofR x y := fun x y => Int.emod_nonneg _ (by decide)
  have h2 : ∀ x y : Int, nofR x y < 10007 := fun x y => Int.emod_lt_of_pos _ (by decide)
  by_cases c1 : 2 < (splB 47 l).length ∨ pnP l < 0 ∨ pnQ l < 1 ∨ (pnP l = 0 ∧ pnS l < 0)
  · rw [if_pos c1]; exact ⟨Int.le_refl _, by simp⟩
  · rw [if_neg c1]
    by_cases c2 : pnQ l % 10007 = 0
    · rw [if_pos c2]; exact ⟨Int.le_refl _, by simp⟩
    · rw [if_neg c2]
      refine ⟨h1 _ _, ?_⟩
      have := h2 (pnS l * pnP l) (pnQ l)
      show nofR (pnS l * pnP l) (pnQ l) ≤ 10006
      omega
/-- what ParseField answers -/
def pfR (l : List UInt8) : List (List Mono) := (pfX rdMF l).getD []
def pfC (l : List UInt8) : Int := if (pfX rdMF l).isSome then 0 else 6
theorem pf_none {M : List UInt8 → Option Mono} {l : List UInt8} (hM : pfX rdMF l = pfX M l) (h : pfX M l = none) : pfR l = [] ∧ pfC l = 6 := by
  unfold pfR pfC
  rw [hM, h]
  exact ⟨rfl, rfl⟩
theorem pf_some {M : List UInt8 → Option Mono} {l : List UInt8} {pss : List (List Mono)} (hM : pfX rdMF l = pfX M l) (h : pfX M l = some pss) : pfR l = pss ∧ pfC l = 0 := by
  unfold pfR pfC
  rw [hM, h]
  exact ⟨rfl, rfl⟩
theorem pfX_none1 {M : List UInt8 → Option Mono} {l : List UInt8} (h : rdF M l = none) : pfX M l = none := by
  unfold pfX
  rw [h]
theorem pfX_none2 {M : List UInt8 → Option Mono} {l : List UInt8} {pss : List (List Mono)} (h : rdF M l = some pss) (h2 : ¬ (fieldB pss.length pss = true ∧ fldTx pss = l)) : pfX M l = none := by
  unfold pfX
  rw [h]
  simp only
  rw [if_neg h2]
theorem pfX_some {M : List UInt8 → Option Mono} {l : List UInt8} {pss : List (List Mono)} (h : rdF M l = some pss) (h1 : fieldB pss.length pss = true) (h2 : fldTx pss = l) : pfX M l = some pss := by
  unfold pfX
  rw [h]
  simp only
  rw [if_pos ⟨h1, h2⟩]
end Go.Proofs.YtnnfjjadehgmeaaGreatDoor

set_option maxRecDepth 100000
set_option linter.unusedVariables false
set_option linter.unusedSimpArgs false
namespace Go.Proofs.YtnnfjjadehgmeaaGreatDoor
open Go.RowKit

section
variable {α : Type} (sz : α → Nat) (mk : Int → α → α)
/-- marked one behind the other -/
def gTot : List α → Nat
  | [] => 0
  | q :: r => sz q + gTot r
def markG : Int → List α → List α
  | _, [] => []
  | k, q :: r => mk k q :: markG (k + (sz q : Nat)) r
theorem markG_len : ∀ (k : Int) (ps : List α), (markG sz mk k ps).length = ps.length
  | _, [] => rfl
  | k, q :: r => by simp [markG, markG_len _ r]
theorem markG_get : ∀ (k : Int) (ps : List α) (j : Nat) (q : α), ps[j]? = some q → (markG sz mk k ps)[j]? = some (mk (k + (gTot sz (ps.take j) : Nat)) q)
  | _, [], j, q, h => by simp at h
  | k, y :: r, 0, q, h => by simp at h; subst h; simp [markG, gTot]
  | k, y :: r, j + 1, q, h => by
    simp only [List.getElem?_cons_succ] at h
    simp only [markG, List.getElem?_cons_succ, List.take_succ_cons]
    rw [markG_get _ r j q h, gTot]
    congr 2
    push_cast
    omega
def markGT (k : Int) (ps : List α) (j : Nat) : List α := (markG sz mk k ps).take j ++ ps.drop j
theorem markGT_zero (k : Int) (ps : List α) : markGT sz mk k ps 0 = ps := by simp [markGT]
theorem markGT_all (k : Int) (ps : List α) : markGT sz mk k ps ps.length = markG sz mk k ps := by
  unfold markGT
  rw [List.drop_length, List.append_nil, List.take_of_length_le (by rw [markG_len]; exact Nat.le_refl _)]
variable {sz mk}
theorem markGT_get {k : Int} {ps : List α} {j : Nat} {q : α} (h : ps[j]? = some q) : (markGT sz mk k ps j)[j]? = some q := by
  have hj := (List.getElem?_eq_some_iff.1 h).1
  unfold markGT
  rw [List.getElem?_append_right (by simp [markG_len]; omega)]
  simp [markG_len, Nat.min_eq_left (Nat.le_of_lt hj), h]
theorem markGT_len (k : Int) (ps : List α) (j : Nat) : (markGT sz mk k ps j).length = ps.length := by
  unfold markGT
  rw [List.length_append, List.length_take, markG_len, List.length_drop]
  omega
theorem markGT_set {k : Int} {ps : List α} {j : Nat} {q : α} (h : ps[j]? = some q) : (markGT sz mk k ps j).set j (mk (k + (gTot sz (ps.take j) : Nat)) q) = markGT sz mk k ps (j + 1) := by
  have hj := (List.getElem?_eq_some_iff.1 h).1
  have hm := markG_get sz mk k ps j q h
  unfold markGT
  have hl : ((markG sz mk k ps).take j).length = j := by simp [markG_len]; omega
  rw [List.set_append_right _ _ (by omega), hl, Nat.sub_self, List.take_add_one, hm]
  rw [List.drop_eq_getElem_cons hj]
  simp only [List.set_cons_zero, List.append_assoc, Option.toList, List.cons_append, List.nil_append]
end
def szM (m : Mono) : Nat := 1 + m.2.length
def mkM (k : Int) (m : Mono) : Mono := (k, marks (k + 1) m.2.length)
def markM : Int → List Mono → List Mono := markG szM mkM
def markF : Int → List (List Mono) → List (List Mono) := markG msTot markM
theorem gTot_ms : ∀ ms : List Mono, gTot szM ms = msTot ms
  | [] => rfl
  | m :: r => by simp [gTot, msTot, gTot_ms r, szM]
theorem gTot_f : ∀ pss : List (List Mono), gTot msTot pss = fTot pss
  | [] => rfl
  | m :: r => by simp [gTot, fTot, gTot_f r]

theorem zipWith_setM {α β γ : Type} (f : α → β → γ) : ∀ (xs : List α) (bs : List β) (j : Nat) (a : α) (b : β), xs[j]? = some a → List.zipWith f xs (bs.set j b) = (List.zipWith f xs bs).set j (f a b)
  | [], bs, j, a, b, h => by simp at h
  | x :: xs, [], j, a, b, h => by simp
  | x :: xs, y :: bs, 0, a, b, h => by simp at h; subst h; simp
  | x :: xs, y :: bs, j + 1, a, b, h => by
    simp only [List.getElem?_cons_succ] at h
    simp [zipWith_setM f xs bs j a b h]
theorem OMd.mark {w : World} {B C g n cap j : Nat} {us : List Value} {ms : List Mono} {u : Value} {m : Mono} (h : OMd w B C (.slice (some ⟨g, 0, none⟩) n cap) us ms) (hu : us[j]? = some u) (hm : ms[j]? = some m) (k : Int) (hk : In64 k) :
    (∃ x, w.cell? ⟨g, j * 2, none⟩ = some x) ∧ w.frozen? ⟨g, j * 2, none⟩ = false ∧ (w.setCell ⟨g, j * 2, none⟩ (.int .i64 k)).cell? ⟨g, j * 2 + 1, none⟩ = some u ∧ OI (w.setCell ⟨g, j * 2, none⟩ (.int .i64 k)) B C tI u m.2 ∧ B ≤ g ∧ g < C ∧
    ∀ (w2 : World) (P' : List Int), (w.setCell ⟨g, j * 2, none⟩ (.int .i64 k)).grownBy w2 u.ownBlock → OwnInts w2 B tI u P' → OMd w2 B C (.slice (some ⟨g, 0, none⟩) n cap) us (ms.set j (k, P')) := by
  have hz := h.zat hu hm
  have hown := h.own
  have k0 := OwnK.cellAt (k := 2) hown hz (j := 0) rfl
  obtain ⟨-, hfz, -, hst, hgt⟩ := OwnK.storeAt (k := 2) hown hz (j := 0) (by omega) (.int .i64 k)
  simp only [Nat.add_zero] at k0 hfz hst hgt
  have hz1 : ((List.zipWith cellM us ms).set j ((cellM u m).set 0 (.int .i64 k)))[j]? = some ((cellM u m).set 0 (.int .i64 k)) := List.getElem?_set_self (List.getElem?_eq_some_iff.1 hz).1
  have k1 := OwnK.cellAt (k := 2) hst hz1 (j := 1) rfl
  have hbt : BT w tM (.slice (some ⟨g, 0, none⟩) n cap) := OwnK.bt hown
  have hr1 : RowsOwn (w.setCell ⟨g, j * 2, none⟩ (.int .i64 k)) B C tI us (ms.map (·.2)) := h.rows.other hgt fun i x hx => by
    have hzz : (ms.map (·.2))[i]? = some ((ms.map (·.2))[i]'(by rw [← h.rows.1]; exact (List.getElem?_eq_some_iff.1 hx).1)) := List.getElem?_eq_getElem _
    exact ((h.rows.2.1 i x _ hx hzz).1.1.bt).ne hbt (by decide)
  have hoi := hr1.2.1 j u m.2 hu (by simp [hm])
  have hbt1 : BT _ tM (.slice (some ⟨g, 0, none⟩) n cap) := OwnK.bt hst
  refine ⟨⟨_, k0⟩, hfz, k1, hoi, OwnK.ge hown g rfl, h.lt g rfl, fun w2 P' hg2 ho2 => ⟨?_, h.lt, ?_, fun x hx => ?_⟩⟩
  · have h2 := OwnK.kept hst hg2 (hbt1.ne hoi.1.1.bt (by decide))
    rw [zipWith_setM cellM us ms j u _ hu]
    exact h2
  · rw [List.map_set]
    exact hr1.set hu hg2 ho2
  · rcases List.mem_or_eq_of_mem_set hx with h1 | rfl
    · exact h.in_ x h1
    · exact hk

set_option maxHeartbeats 4000000 in
theorem n_mark_monos (w : World) (B C : Nat) (v : Value) (ms : List Mono) (k : Int) (ho : OMo w B C v ms) (hn : msTot ms ≤ 1073741824) (h0 : 0 ≤ k) (h1 : k ≤ 4294967296) :
    Calls Tryz.prog 51 #[v, .int .i64 k] w fun e w' => e = .returned (.int .i64 (k + (msTot ms : Nat))) ∧ OMo w' B C v (markM k ms) ∧ Chg B C w w' := by
  obtain ⟨us, ho⟩ := ho
  obtain ⟨A, c, rfl, l1, l2⟩ := ho.open_
  have HO := Lib.hid ho
  clear ho
  go_enter Tryz.func51, Tryz.ntmps51
  go_wp2_with fail
  go_loopw [1, 5] (fun x i wr => ∃ j : Nat, j ≤ ms.length ∧ i = .int .i64 j ∧ x = .int .i64 (k + (msTot (ms.take j) : Nat)) ∧ OMd wr B C (.slice A ms.length c) us (markGT szM mkM k ms j) ∧ Chg B C w wr) (fun _ i _ => ms.length - (intOf i).toNat)
  case atStart => exact ⟨0, Nat.zero_le _, rfl, by simp [msTot], by rw [markGT_zero]; exact HO.out, Chg.refl _ _ _⟩
  case round =>
    obtain ⟨j, hj, rfl, rfl, hown, hch⟩ := hrel
    clear HO
    have HO := Lib.hid hown
    have HC := Lib.hid hch
    clear hown hch
    by_cases hlt : j < ms.length
    · obtain ⟨m, hm0⟩ : ∃ m, ms[j]? = some m := ⟨_, List.getElem?_eq_getElem hlt⟩
      have hm := markGT_get (sz := szM) (mk := mkM) (k := k) hm0
      obtain ⟨u, hu⟩ := HO.out.dat hm
      obtain ⟨g, cap, he, -⟩ := OwnK.cell (k := 2) HO.out.own (HO.out.zat hu hm) (j := 0) rfl
      simp only [Value.slice.injEq] at he
      obtain ⟨rfl, -, -⟩ := he
      have hle := msTot_take_le ms (j + 1)
      rw [msTot_take_succ hm0] at hle
      have HS := Lib.hid (msTot_take_succ hm0)
      have HSET := Lib.hid (markGT_set (sz := szM) (mk := mkM) (k := k) hm0)
      rw [gTot_ms] at HSET
      have hji : (j : Int) < (ms.length : Int) := by omega
      have HM := Lib.hid hm
      have HU := Lib.hid hu
      clear hm0 hm hu
      generalize msTot (ms.take j) = t at hle HS HSET ⊢
      obtain ⟨⟨x0, c0⟩, c1, c2, c3, c4, c5, c6⟩ := HO.out.mark HU.out HM.out (k + (t : Int)) (by unfold In64; omega)
      have HOI := Lib.hid c3
      have HG := Lib.hid (And.intro c4 c5)
      have HNX := Lib.hid c6
      clear c3 c4 c5 c6
      have HMK := Lib.hid (l_markInt64S _ B u m.2 (k + (t : Int) + 1) HOI.out.1 (by omega) (by omega) (by omega))
      go_wp2_with (go_at_call 78; go_loud (refine HMK.out.mono ?_; rintro e w2 ⟨rfl, ho2, hg2, -⟩; have HO2 := Lib.hid ho2; have HG2 := Lib.hid hg2; clear ho2 hg2))
      have hnx := HNX.out w2 _ HG2.out HO2.out
      have hc1 := HC.out.setCell (p := ⟨g, j * 2, none⟩) HG.out.1 HG.out.2 (.int .i64 (k + (t : Int)))
      have hc2 := hc1.trans (Chg.of_grown HG2.out fun b hb => ⟨HOI.out.1.1.ge b hb, HOI.out.2 b hb⟩)
      go_roundw
      case rel =>
        refine ⟨j + 1, by omega, by go_num, by rw [HS.out]; push_cast; go_num, ?_, hc2⟩
        rw [← HSET.out]
        exact hnx
      case measure => simp [intOf]; omega
    · have : j = ms.length := by omega
      subst this
      go_wp2_with fail
      go_ret
      refine ⟨ret_int (by rw [List.take_length]), ⟨us, ?_⟩, HC.out⟩
      unfold markM
      rw [← markGT_all]
      exact HO.out
theorem PFd.mark {w w' : World} {B C j : Nat} {u v : Value} {vs : List Value} {ivs : List (Nat × Nat)} {pss : List (List Mono)} {ms ms' : List Mono} {iv : Nat × Nat} (h : PFd w B C u vs ivs pss) (hC : C ≤ w.heap.size) (hv : vs[j]? = some v) (hm : pss[j]? = some ms) (hi : ivs[j]? = some iv) (hc : Chg iv.1 iv.2 w w') (ho : OMo w' iv.1 iv.2 v ms') :
    PFd w' B C u vs ivs (pss.set j ms') := by
  obtain ⟨a1, a2, -⟩ := h.at_ j v ms iv hv hm hi
  refine ⟨h.own.of_block fun b hb => hc.block b (h.own.lt b hb) (h.out j iv b hi hb), h.lt, h.le, by rw [List.length_set]; exact h.len, by rw [List.length_set]; exact h.ilen, fun i v' ns iv' hv' hn' hi' => ?_, h.out, h.ord⟩
  by_cases hij : i = j
  · subst hij
    rw [hv] at hv'
    rw [hi] at hi'
    rw [List.getElem?_set_self (List.getElem?_eq_some_iff.1 hm).1] at hn'
    simp only [Option.some.injEq] at hv' hi' hn'
    subst hv'; subst hi'; subst hn'
    exact ⟨a1, a2, ho⟩
  · rw [List.getElem?_set_ne (fun e => hij e.symm)] at hn'
    obtain ⟨b1, b2, b3⟩ := h.at_ i v' ns iv' hv' hn' hi'
    refine ⟨b1, b2, b3.agree (Same.of_chg hc (by omega) ?_)⟩
    rcases Nat.lt_or_gt_of_ne hij with hlt | hlt
    · left; exact h.ord i j iv' iv hlt hi' hi
    · right; exact h.ord j i iv iv' hlt hi hi'

set_option maxHeartbeats 4000000 in
theorem n_mark_parts_f (w : World) (B C : Nat) (v : Value) (pss : List (List Mono)) (k : Int) (ho : PF w B C v pss) (hC : C ≤ w.heap.size) (hn : fTot pss ≤ 1073741824) (h0 : 0 ≤ k) (h1 : k ≤ 1073741824) :
    Calls Tryz.prog 26 #[v, .int .i64 k] w fun e w' => e = .returned (.int .i64 (k + (fTot pss : Nat))) ∧ PF w' B C v (markF k pss) ∧ Chg B C w w' := by
  obtain ⟨vs, ivs, ho⟩ := ho
  obtain ⟨A, c, rfl, l1, l2⟩ := ho.own.cells.open_
  have HL := Lib.hid ho.len
  rw [HL.out] at l1 ho ⊢
  have HO := Lib.hid ho
  clear ho
  go_enter Tryz.func26, Tryz.ntmps26
  go_wp2_with fail
  go_loopw [1, 5] (fun x i wr => ∃ j : Nat, j ≤ pss.length ∧ i = .int .i64 j ∧ x = .int .i64 (k + (fTot (pss.take j) : Nat)) ∧ PFd wr B C (.slice A pss.length c) vs ivs (markGT msTot markM k pss j) ∧ Chg B C w wr) (fun _ i _ => pss.length - (intOf i).toNat)
  case atStart => exact ⟨0, Nat.zero_le _, rfl, by simp [fTot], by rw [markGT_zero]; exact HO.out, Chg.refl _ _ _⟩
  case round =>
    obtain ⟨j, hj, rfl, rfl, hown, hch⟩ := hrel
    clear HO
    have HO := Lib.hid hown
    have HC := Lib.hid hch
    clear hown hch
    by_cases hlt : j < pss.length
    · obtain ⟨ms, hm0⟩ : ∃ ms, pss[j]? = some ms := ⟨_, List.getElem?_eq_getElem hlt⟩
      have hm := markGT_get (sz := msTot) (mk := markM) (k := k) hm0
      have hv : vs[j]? = some (vs[j]'(by rw [HL.out]; exact hlt)) := List.getElem?_eq_getElem _
      have hi : ivs[j]? = some (ivs[j]'(by rw [HO.out.ilen, markGT_len]; exact hlt)) := List.getElem?_eq_getElem _
      generalize (vs[j]'(by rw [HL.out]; exact hlt)) = vj at hv
      generalize (ivs[j]'(by rw [HO.out.ilen, markGT_len]; exact hlt)) = iv at hi
      obtain ⟨a1, a2, a3⟩ := HO.out.at_ j vj ms iv hv hm hi
      obtain ⟨ad, n, c', e, hc0⟩ := HO.out.own.cells.at_ hv
      simp only [Value.slice.injEq] at e
      obtain ⟨rfl, -, -⟩ := e
      have hle := fTot_take_le pss (j + 1)
      rw [fTot_take_succ hm0] at hle
      have HS := Lib.hid (fTot_take_succ hm0)
      have HSET := Lib.hid (markGT_set (sz := msTot) (mk := markM) (k := k) hm0)
      rw [gTot_f] at HSET
      have hji : (j : Int) < (pss.length : Int) := by omega
      have HM := Lib.hid hm
      have HV := Lib.hid hv
      have HI := Lib.hid hi
      have HA := Lib.hid (And.intro a1 a2)
      have HCC := Lib.hid (show C ≤ wr.heap.size from Nat.le_trans hC HC.out.size)
      clear hm0 hm hv hi a1 a2
      generalize fTot (pss.take j) = t at hle HS HSET ⊢
      have HMK := Lib.hid (n_mark_monos wr iv.1 iv.2 vj ms (k + (t : Int)) a3 (by omega) (by omega) (by omega))
      clear a3
      go_wp2_with (go_at_call 51; go_loud (refine HMK.out.mono ?_; rintro e w2 ⟨rfl, ho2, hg2⟩; have HO2 := Lib.hid ho2; have HG2 := Lib.hid hg2; clear ho2 hg2))
      have hnx := HO.out.mark HCC.out HV.out HM.out HI.out HG2.out HO2.out
      have hc2 := HC.out.trans (HG2.out.mono HA.out.1 HA.out.2)
      go_roundw
      case rel =>
        refine ⟨j + 1, by omega, by go_num, by rw [HS.out]; push_cast; go_num, ?_, hc2⟩
        rw [← HSET.out]
        exact hnx
      case measure => simp [intOf]; omega
    · have : j = pss.length := by omega
      subst this
      go_wp2_with fail
      go_ret
      refine ⟨ret_int (by rw [List.take_length]), ⟨vs, ivs, ?_⟩, HC.out⟩
      unfold markF
      rw [← markGT_all]
      exact HO.out
theorem n_mark_field (w : World) (B C : Nat) (n : Int) (u : Value) (pss : List (List Mono)) (k : Int) (ho : PF w B C u pss) (hC : C ≤ w.heap.size) (hn : fTot pss ≤ 1073741824) (h0 : 0 ≤ k) (h1 : k ≤ 1073741824) :
    Calls Tryz.prog 8 #[.agg #[.int .i64 n, u], .int .i64 k] w fun e w' => e = .returned (.int .i64 (k + (fTot pss : Nat))) ∧ PF w' B C u (markF k pss) ∧ Chg B C w w' := by
  have HO := Lib.hid (ho.agree (Same.of_below (below1 w (.cells #[.int .i64 n, u] 24)) hC))
  obtain ⟨A, c, rfl, -⟩ := ho.mrows.open_
  have HC := Lib.hid ((Chg.refl B C w).trans (Chg.of_below (below1 w (.cells #[.int .i64 n, .slice A pss.length c] 24)) B C))
  have hC1 : C ≤ (w.alloc (.cells #[.int .i64 n, .slice A pss.length c] 24)).heap.size := by simp; omega
  clear ho
  go_enter Tryz.func8, Tryz.ntmps8
  go_wp2_with (go_at_call 26; go_loud (refine (n_mark_parts_f _ B C _ pss k HO.out hC1 hn h0 h1).mono ?_; rintro e w2 ⟨rfl, ho2, hc2⟩))
  go_ret
  exact ⟨rfl, ho2, HC.out.trans hc2⟩
end Go.Proofs.YtnnfjjadehgmeaaGreatDoor

