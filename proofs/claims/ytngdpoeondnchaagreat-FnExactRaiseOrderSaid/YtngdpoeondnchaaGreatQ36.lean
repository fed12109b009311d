/- Walk: l07Scale of the reference. | Walks: adjointMap, AdjointMap, IsSymmetricMap, ConjugateMap of the program and of the reference. -/
import Derived.Test.YtngdpoeondnchaaGreatQ35
import Derived.Test.YtngdpoeondnchaaGreatQ14
import Derived.Test.YtngdpoeondnchaaGreatQ5
import Derived.Test.YtngdpoeondnchaaGreatQ26
import Derived.Test.YtngdpoeondnchaaGreatQ24
import Derived.Test.YtngdpoeondnchaaGreatQ8
import Derived.Test.YtngdpoeondnchaaGreatQ21
import Derived.Test.YtngdpoeondnchaaGreatQ34
import Derived.Deep.CutRange
import Derived.Deep.CutBlock
import Derived.Deep.DeepCutAuto
import Derived.Test.YtngdpoeondnchaaGreatQ11
set_option maxRecDepth 100000
set_option linter.unusedVariables false
set_option linter.unusedSimpArgs false
namespace Go.Proofs.YtngdpoeondnchaaGreat
open Go.RowKit

/-- rows that no growth of a slice's own block touches -/
def APR (w : World) (o x : Value) : Prop := ∃ vs, ∀ W', w.grownBy W' o.ownBlock → Cells W' x vs ∧ Rows W' x (T6n.map up)
theorem APR.rows {w : World} {o x : Value} (h : APR w o x) : Rows w x (T6n.map up) := by
  obtain ⟨vs, h⟩ := h
  exact (h w (World.grownBy.refl _ _)).2
theorem APR.step {w w' : World} {o o' x : Value} (h : APR w o x) (hg : Grow w w' o o') : APR w' o' x := by
  obtain ⟨vs, h⟩ := h
  refine ⟨vs, fun W hW => ?_⟩
  have g1 := hg.1
  refine h W ⟨hW.os.trans g1.os, hW.tape.trans g1.tape, hW.output.trans g1.output, Nat.le_trans g1.size hW.size, fun k hk hne => ?_⟩
  have e1 := g1.block k hk hne
  have e2 := hW.block k (Nat.lt_of_lt_of_le hk g1.size) (fun e => by
    rcases hg.2 with h2 | ⟨g, h2, h3⟩
    · exact hne (h2 ▸ e)
    · rw [h2] at e; injection e with e; omega)
  exact e2.trans e1
theorem APR.drew {w : World} {o x : Value} (h : APR w o x) : APR w.drew o x := by
  obtain ⟨vs, h⟩ := h
  exact ⟨vs, fun W hW => h { w with heap := W.heap } ⟨rfl, rfl, rfl, hW.size, hW.block⟩⟩
theorem APR.cell {w W : World} {o : Value} {ad : Addr} {c i : Nat} (h : APR w o (.slice (some ad) 37 c)) (hg : w.grownBy W o.ownBlock) (hi : i < 37) : W.cell? (ad.add i) = w.cell? (ad.add i) := by
  obtain ⟨vs, h⟩ := h
  have h1 := (h w (World.grownBy.refl _ _)).1
  have h2 := (h W hg).1
  obtain ⟨A, c', e, -, -⟩ := h1.open_
  simp only [Value.slice.injEq] at e
  obtain ⟨u, hv⟩ : ∃ u, vs[i]? = some u := ⟨_, List.getElem?_eq_getElem (by omega)⟩
  obtain ⟨a1, n1, c1, e1, k1⟩ := h1.at_ hv
  obtain ⟨a2, n2, c2, e2, k2⟩ := h2.at_ hv
  simp only [Value.slice.injEq, Option.some.injEq] at e1 e2
  rw [← e1.1] at k1
  rw [← e2.1] at k2
  rw [k1, k2]
theorem APR.after {w3 : World} {B : Nat} {x : Value} (h : LA w3 B x (T6n.map up)) (v : Value) (t : TypeId) : APR (w3.alloc (.cells #[v] t)) (.slice (some ⟨w3.heap.size, 0, none⟩) 1 1) x := by
  have h0 := h
  obtain ⟨vs, h1, -, -⟩ := h0
  refine ⟨vs, fun W hW => ?_⟩
  have hb : Below w3.heap.size w3 W := (below1 w3 (.cells #[v] t)).grown hW (by simp) (fun b hb => by simp [Value.ownBlock] at hb; omega)
  exact ⟨(h1.below hb).cells, (h.below hb).rows⟩
theorem APR.before {w3 : World} {B g : Nat} {x : Value} (h : LA w3 B x (T6n.map up)) (hg : g < B) : APR w3 (.slice (some ⟨g, 0, none⟩) 1 1) x := by
  have h0 := h
  obtain ⟨vs, h1, -, -⟩ := h0
  refine ⟨vs, fun W hW => ⟨(h1.kept hW ?_).cells, (h.keptLt' hW hg).rows⟩⟩
  cases hb : x.ownBlock with
  | none => exact .inl rfl
  | some b => exact .inr fun e => by injection e with e; have := h1.ge b hb; have e : b = g := e; omega
set_option maxHeartbeats 8000000 in
theorem s_l07Scale (w : World) (va : Value) (a : List Int) (k : Int) (h1 : Ints w va a) (l1 : a.length = 38) (hN1 : Nums a) (hk0 : 0 ≤ k) (hk1 : k ≤ 10006) :
    Calls Tryz.prog 80 #[va, .int .i64 k] w fun e w' => ∃ x, e = .returned x ∧ OwnInts w' w.heap.size tI x (scZ a k) ∧ Below w.heap.size w w' := by
  obtain ⟨Aa, ca, rfl, -, -, -⟩ := h1.open_
  rw [l1] at h1 ⊢
  obtain ⟨ada, rfl, hc0, hy0, hy1⟩ := map_cell h1 hN1 (k := 0) (by omega)
  have HS0 := Lib.hid (show ints ((scZ a k).take 1) = [.int .i64 (a.getD 0 0)] from by
    have h := scZ_step a k (i := 0) (by omega)
    rw [h, szN_zero, show pw k 0 = 1 from by simp [pw], Int.mul_one, show a.getD 0 0 % 10007 = a.getD 0 0 from by omega]
    rfl)
  obtain ⟨y0, hy0'⟩ : ∃ y0, y0 = a.getD 0 0 := ⟨_, rfl⟩
  rw [← hy0'] at hc0 HS0
  have hc0' : w.cell? ada = some (.int .i64 y0) := by simpa [Addr.add] using hc0
  have HC0 := Lib.hid hc0'
  have HA := Lib.hid h1
  have HNA := Lib.hid hN1
  have HSZ := Lib.hid (scZ_len a k)
  clear hy0' hy0 hy1 hc0 h1 hN1 l1
  go_enter Tryz.func80, Tryz.ntmps80
  go_upto_region 1 with fail
  go_cut [5, 6] (fun x o wx => ∃ A c, x = .slice A 37 c ∧ APR wx o (.slice A 37 c) ∧ Own wx w.heap.size tI o (ints ((scZ a k).take 1)) ∧ Below w.heap.size w wx)
  case first =>
    go_region_law ((go_simp; go_at_call 115; refine (s_l03All _ 6 (by omega)).mono ?_; rintro e w3 ⟨x3, rfl, hx3, hb3⟩; rw [show allG treesN 6 = T6n from rfl] at hx3; obtain ⟨A3, c3, he3, -, -, -⟩ := hx3.rows.open_; rw [List.length_map, T6n_len] at he3; subst he3; have HX3 := Lib.hid hx3; have HB3 := Lib.hid hb3; have hk3 : w3.cell? ada = some (.int .i64 y0) := keepCell (by first | exact below_of_drew hb3 | exact (below1 w _).trans ((below_of_drew hb3).mono (by simp))) HC0.out; clear hx3 hb3))
    all_goals
      go_wp2_with fail
      go_meet
    all_goals first
      | exact ⟨_, _, rfl, APR.after HX3.out _ _, by rw [HS0.out]; exact (own_lit w3 tI [.int .i64 y0] (by simp [maxLen])).mono (below_of_drew HB3.out).size, (below_of_drew HB3.out).alloc (below_of_drew HB3.out).size _⟩
      | exact ⟨_, _, rfl, APR.before HX3.out (by simp), by rw [HS0.out]; exact (own_lit w tI [.int .i64 y0] (by simp [maxLen])).below (below_of_drew HB3.out), (below1 w _).trans ((below_of_drew HB3.out).mono (by simp))⟩
  case rest =>
    obtain ⟨A, c, rfl, hr, ho, hb⟩ := hcut
    have HR := Lib.hid hr
    have OL := Lib.hid ho
    have OB := Lib.hid hb
    clear hr ho hb hc0'
    go_wp2_with fail
    go_loopw [6, 7] (fun o x wr => ∃ i : Nat, i ≤ 37 ∧ x = .int .i64 i ∧ Own wr w.heap.size tI o (ints ((scZ a k).take (i + 1))) ∧ Below w.heap.size w wr ∧ Hid (APR wr o (.slice A 37 c))) (fun _ x _ => 37 - (intOf x).toNat)
    case atStart => exact ⟨0, Nat.zero_le _, rfl, OL.out, OB.out, HR⟩
    case round =>
      obtain ⟨i, hi, rfl, ho, hb, HRQ⟩ := hrel
      rename World => wq
      clear OL OB HR
      have hel : ((scZ a k).take (i + 1)).length = i + 1 := by rw [List.length_take, HSZ.out]; omega
      have hol := ho.cells.open_
      rw [ints_len, hel] at hol
      obtain ⟨Ao, co, rfl, -, -⟩ := hol
      have HEL := Lib.hid hel
      have HO := Lib.hid ho
      have HBQ := Lib.hid hb
      clear ho hel
      by_cases hlt : i < 37
      · obtain ⟨ad, At, ct, t, rfl, ht, hti, hcr⟩ := HRQ.out.rows.tree hlt
        obtain ⟨_, he, hcx, hx0, hx1⟩ := map_cell (HA.out.below hb) HNA.out (k := i + 1) (by omega)
        simp only [Option.some.injEq] at he
        subst he
        have hcx : wq.cell? ⟨ada.block, ada.off + (i + 1), none⟩ = some (.int .i64 (a.getD (i + 1) 0)) := by simpa [Addr.add] using hcx
        have HTS := Lib.hid (scZ_step a k (i := i + 1) (by omega))
        rw [szN_succ ht] at HTS
        have hsz : t.length ≤ 6 := (T6n_at (List.mem_of_getElem? ht)).2.2.1
        have hpb := pw_bd k t.length
        have HPW := Lib.hid (fun W => show Calls Tryz.prog 95 #[.int .i64 k, .int .i64 (t.length : Nat)] W fun e w' => e = .returned (.int .i64 (pw k t.length)) ∧ W = w' from by
          have h := s_l01Pow k (t.length : Nat) W hk0 (by omega) (by omega) (by omega)
          rwa [Int.toNat_natCast] at h)
        obtain ⟨P, hP⟩ : ∃ P, P = pw k t.length := ⟨_, rfl⟩
        rw [← hP] at hpb HPW HTS
        have HCX := Lib.hid (show ∀ W', Below w.heap.size w W' → W'.cell? ⟨ada.block, ada.off + (i + 1), none⟩ = some (.int .i64 (a.getD (i + 1) 0)) from fun W' hW => by
          obtain ⟨_, he, h1, -, -⟩ := map_cell (HA.out.below hW) HNA.out (k := i + 1) (by omega)
          simp only [Option.some.injEq] at he
          subst he
          simpa [Addr.add] using h1)
        generalize a.getD (i + 1) 0 = y at *
        have HMU := Lib.hid (fun W => s_l01Mul y P W hx0 (by omega) hpb.1 (by omega))
        generalize t.length = tn at *
        have QQ := Lib.hid (show ∀ W', Below wq.heap.size wq W' → W'.cell? ⟨ada.block, ada.off + (i + 1), none⟩ = some (.int .i64 y) ∧ W'.cell? (ad.add i) = some (.slice At tn ct) from fun W' h => ⟨keepCell h hcx, keepCell h hcr⟩)
        have HCR := Lib.hid hcr
        have hii : (i : Int) < 37 := by omega
        have hi1 : (i : Int) + 1 < 38 := by omega
        clear hb hP ht hti hcx hcr
        go_upto_region 5 with fail
        have hwr : IntKind.i64.wrap ((i : Int) + 1) = (i : Int) + 1 := IntWalk.i64_in _ (by omega)
        have htn1 : ((i : Int) + 1).toNat = i + 1 := by omega
        have hin0 : (0 : Int) ≤ (i : Int) + 1 := by omega
        refine AnyT.begin (k := 15) (S := fun b w' => (w'.cell? ⟨ada.block, ada.off + (i + 1), none⟩ = some (.int .i64 y) ∧ w'.cell? (ad.add i) = some (.slice At tn ct)) ∧ True) (by kernel_rfl) ?_
        have hS : (fun (b : Bool) (w' : World) => (w'.cell? ⟨ada.block, ada.off + (i + 1), none⟩ = some (.int .i64 y) ∧ w'.cell? (ad.add i) = some (.slice At tn ct)) ∧ True) false wq.drew := ⟨QQ.out _ (Below.refl wq.heap.size wq).drew, trivial⟩
        refine AnyT.take0 (i := 0) (v := ?_) rfl (by kernel_rfl) (by kernel_rfl) (by kernel_rfl) (by decide) (fun _ _ _ h => h) hS (Or.inl ⟨by first | kernel_rfl | rfl, ?_⟩) ?_
        rotate_left
        · intro w' hw'; clear hw'; go_simp; try with_reducible rfl
        try simp only [Act.put, List.setIfInBounds_toArray, List.set_cons_zero, List.set_cons_succ]
        refine AnyT.take0 (i := 1) (v := ?_) rfl (by kernel_rfl) (by kernel_rfl) (by kernel_rfl) (by decide) (fun _ _ _ h => h) hS (Or.inl ⟨by first | kernel_rfl | rfl, ?_⟩) ?_
        rotate_left
        · intro w' hw'; clear hw'; go_simp; try with_reducible rfl
        try simp only [Act.put, List.setIfInBounds_toArray, List.set_cons_zero, List.set_cons_succ]
        refine AnyT.take0 (i := 2) (v := ?_) rfl (by kernel_rfl) (by kernel_rfl) (by kernel_rfl) (by decide) (fun _ _ _ h => h) hS (Or.inl ⟨by first | kernel_rfl | rfl, ?_⟩) ?_
        rotate_left
        · intro w' hw'; clear hw'; go_simp; try with_reducible rfl
        try simp only [Act.put, List.setIfInBounds_toArray, List.set_cons_zero, List.set_cons_succ]
        refine AnyT.take0 (i := 3) (v := ?_) rfl (by kernel_rfl) (by kernel_rfl) (by kernel_rfl) (by decide) (fun _ _ _ h => h) hS (Or.inl ⟨by first | kernel_rfl | rfl, ?_⟩) ?_
        rotate_left
        · intro w' hw'; clear hw'; go_simp; try with_reducible rfl
        try simp only [Act.put, List.setIfInBounds_toArray, List.set_cons_zero, List.set_cons_succ]
        refine AnyT.take0 (i := 4) (v := ?_) rfl (by kernel_rfl) (by kernel_rfl) (by kernel_rfl) (by decide) (fun _ _ _ h => h) hS (Or.inl ⟨by first | kernel_rfl | rfl, ?_⟩) ?_
        rotate_left
        · intro w' hw'; clear hw'; go_simp; try with_reducible rfl
        try simp only [Act.put, List.setIfInBounds_toArray, List.set_cons_zero, List.set_cons_succ]
        refine AnyT.take0 (i := 5) (v := ?_) rfl (by kernel_rfl) (by kernel_rfl) (by kernel_rfl) (by decide) (fun _ _ _ h => h) hS (Or.inl ⟨by first | kernel_rfl | rfl, ?_⟩) ?_
        rotate_left
        · rintro w' ⟨b, hw'⟩; obtain ⟨hw1, -⟩ := hw'; (try (obtain ⟨hw1, hw2⟩ := hw1)); (try (obtain ⟨hw2, hw3⟩ := hw2)); (try (obtain ⟨hw3, hw4⟩ := hw3)); go_simp; try with_reducible rfl
        try simp only [Act.put, List.setIfInBounds_toArray, List.set_cons_zero, List.set_cons_succ]
        refine AnyT.take0 (i := 6) (v := ?_) rfl (by kernel_rfl) (by kernel_rfl) (by kernel_rfl) (by decide) (fun _ _ _ h => h) hS (Or.inl ⟨by first | kernel_rfl | rfl, ?_⟩) ?_
        rotate_left
        · intro w' hw'; clear hw'; go_simp; try with_reducible rfl
        try simp only [Act.put, List.setIfInBounds_toArray, List.set_cons_zero, List.set_cons_succ]
        refine AnyT.take0 (i := 7) (v := ?_) rfl (by kernel_rfl) (by kernel_rfl) (by kernel_rfl) (by decide) (fun _ _ _ h => h) hS (Or.inl ⟨by first | kernel_rfl | rfl, ?_⟩) ?_
        rotate_left
        · intro w' hw'; clear hw'; go_simp; try with_reducible rfl
        try simp only [Act.put, List.setIfInBounds_toArray, List.set_cons_zero, List.set_cons_succ]
        refine AnyT.take0 (i := 8) (v := ?_) rfl (by kernel_rfl) (by kernel_rfl) (by kernel_rfl) (by decide) (fun _ _ _ h => h) hS (Or.inl ⟨by first | kernel_rfl | rfl, ?_⟩) ?_
        rotate_left
        · intro w' hw'; clear hw'; go_simp; try with_reducible rfl
        try simp only [Act.put, List.setIfInBounds_toArray, List.set_cons_zero, List.set_cons_succ]
        refine AnyT.take0 (i := 9) (v := ?_) rfl (by kernel_rfl) (by kernel_rfl) (by kernel_rfl) (by decide) (fun _ _ _ h => h) hS (Or.inl ⟨by first | kernel_rfl | rfl, ?_⟩) ?_
        rotate_left
        · intro w' hw'; clear hw'; go_simp; try with_reducible rfl
        try simp only [Act.put, List.setIfInBounds_toArray, List.set_cons_zero, List.set_cons_succ]
        refine AnyT.take0 (i := 10) (v := ?_) rfl (by kernel_rfl) (by kernel_rfl) (by kernel_rfl) (by decide) (fun _ _ _ h => h) hS (Or.inl ⟨by first | kernel_rfl | rfl, ?_⟩) ?_
        rotate_left
        · rintro w' ⟨b, hw'⟩; obtain ⟨hw1, -⟩ := hw'; (try (obtain ⟨hw1, hw2⟩ := hw1)); (try (obtain ⟨hw2, hw3⟩ := hw2)); (try (obtain ⟨hw3, hw4⟩ := hw3)); go_simp; try with_reducible rfl
        try simp only [Act.put, List.setIfInBounds_toArray, List.set_cons_zero, List.set_cons_succ]
        refine AnyT.take0 (i := 11) (v := ?_) rfl (by kernel_rfl) (by kernel_rfl) (by kernel_rfl) (by decide) (fun _ _ _ h => h) hS (Or.inl ⟨by first | kernel_rfl | rfl, ?_⟩) ?_
        rotate_left
        · intro w' hw'; clear hw'; go_simp; try with_reducible rfl
        try simp only [Act.put, List.setIfInBounds_toArray, List.set_cons_zero, List.set_cons_succ]
        refine AnyT.go (rs := [12]) (by kernel_rfl) (by simp) ?_
        refine AllT.cons rfl (fun K hK => ?_) AllT.nil
        go_simp
        refine (HPW.out wq.drew).mono ?_
        rintro e w5 ⟨rfl, rfl⟩
        refine hK.out _ _ ⟨QQ.out _ (Below.refl wq.heap.size wq).drew, trivial⟩ (fun hS => ?_)
        clear hK
        try simp only [Act.put, List.setIfInBounds_toArray, List.set_cons_zero, List.set_cons_succ]
        refine AnyT.go (rs := [13]) (by kernel_rfl) (by simp) ?_
        refine AllT.cons rfl (fun K hK => ?_) AllT.nil
        go_simp
        refine (HMU.out wq.drew).mono ?_
        rintro e w5 ⟨rfl, rfl⟩
        refine hK.out _ _ ⟨QQ.out _ (Below.refl wq.heap.size wq).drew, trivial⟩ (fun hS => ?_)
        clear hK
        try simp only [Act.put, List.setIfInBounds_toArray, List.set_cons_zero, List.set_cons_succ]
        refine AnyT.go (rs := [14]) (by kernel_rfl) (by simp) ?_
        refine AllT.cons rfl (fun K hK => ?_) AllT.nil
        go_simp
        have HB6 := Lib.hid (show Below wq.heap.size wq (wq.drew.alloc (.cells #[.int .i64 (y * P % 10007)] tI)) from (Below.refl wq.heap.size wq).drew.trans (below1 wq.drew _))
        refine hK.out _ _ ⟨QQ.out _ HB6.out, trivial⟩ (fun hS => ?_)
        clear hK
        try simp only [Act.put, List.setIfInBounds_toArray, List.set_cons_zero, List.set_cons_succ]
        refine AnyT.go (rs := [15]) (by kernel_rfl) (by simp) ?_
        refine AllT.cons rfl (fun K hK => ?_) AllT.nil
        refine step_app1 T_int (W := wq.drew) (u := .int .i64 (y * P % 10007)) (HO.out.below (Below.refl wq.heap.size wq).drew) (by rw [ints_len, HEL.out]; omega) HBQ.out.size rfl (by rfl) rfl (by rfl) (by rfl) ?_
        intro v7 w7 hown7 hgr7
        have HN7 := Lib.hid hown7
        have HB7 := Lib.hid (show Below w.heap.size w w7 from hgr7.below (HBQ.out.drew) HBQ.out.size HO.out.ge)
        have HBC7 := Lib.hid hgr7
        have CL7 := Lib.hid (show w7.cell? ⟨ada.block, ada.off + (i + 1), none⟩ = some (.int .i64 y) ∧ w7.cell? (ad.add i) = some (.slice At tn ct) from ⟨HCX.out w7 HB7.out, by rw [HRQ.out.drew.cell hgr7.1 hlt]; exact HCR.out⟩)
        refine hK.out _ _ ⟨CL7.out, trivial⟩ (fun hS => ?_)
        clear hK hown7 hgr7
        try simp only [Act.put, List.setIfInBounds_toArray, List.set_cons_zero, List.set_cons_succ]
        refine AnyT.take0 (i := 16) (v := ?_) rfl (by kernel_rfl) (by kernel_rfl) (by kernel_rfl) (by decide) (fun _ _ _ h => h) hS (Or.inl ⟨by first | kernel_rfl | rfl, ?_⟩) ?_
        rotate_left
        · intro w' hw'; clear hw'; go_simp; try with_reducible rfl
        try simp only [Act.put, List.setIfInBounds_toArray, List.set_cons_zero, List.set_cons_succ]
        clear hS
        refine AnyT.done (by kernel_rfl) ?_ _
        go_wp2_with fail
        go_roundw
        case rel =>
          refine ⟨i + 1, by omega, by go_num, ?_, HB7.out, ?_⟩
          · rw [HTS.out]; exact HN7.out
          · exact Lib.hid (HRQ.out.drew.step HBC7.out)
        case measure => simp [intOf]; omega
      · have hil : i + 1 = (scZ a k).length := by rw [HSZ.out]; omega
        have HFF := Lib.hid (show (scZ a k).take (i + 1) = scZ a k from by rw [hil]; exact List.take_length)
        clear hil
        go_wp2_with fail
        go_ret
        refine ⟨_, rfl, ⟨?_, fun z hz => in64_num (scZ_nums a k z hz)⟩, HBQ.out⟩
        have h := HO.out
        rw [HFF.out] at h
        exact h
end Go.Proofs.YtngdpoeondnchaaGreat

set_option maxRecDepth 100000
set_option linter.unusedVariables false
set_option linter.unusedSimpArgs false
namespace Go.Proofs.YtngdpoeondnchaaGreat
open Go.RowKit

def adjZ (a : List Int) : List Int := invL (scZ a 10006) 37
set_option maxHeartbeats 8000000 in
theorem i_adjointMap (w : World) (vp va : Value) (Af : Option Addr) (cf Bp : Nat) (a : List Int) (hR : Rows w (.slice Af 37 cf) (T6n.map up)) (hP : FrC w Bp vp) (h1 : Ints w va a) (l1 : a.length = 38) (n1 : Nums a) :
    Calls Tryz.prog 72 #[.agg #[.slice Af 37 cf, vp], va] w fun e w' => ∃ x, e = .returned x ∧ OwnInts w' w.heap.size tI x (adjZ a) ∧ Below w.heap.size w w' := by
  obtain ⟨Ay, cy, rfl, -⟩ := hP.at_
  obtain ⟨Aa, ca, rfl, -, -, -⟩ := h1.open_
  rw [l1] at h1 ⊢
  obtain ⟨W, hW⟩ : ∃ W, W = w.alloc (.cells #[.slice Af 37 cf, .slice Ay 37 cy] tFo) := ⟨_, rfl⟩
  have hbw : Below w.heap.size w W := by rw [hW]; exact below1 w _
  have HBW := Lib.hid hbw
  have HKF := Lib.hid (show Blk W w.heap.size tFo #[.slice Af 37 cf, .slice Ay 37 cy] from by rw [hW]; exact Blk.new _ _ _)
  have HRW := Lib.hid (hR.below hbw)
  have HFW := Lib.hid (hP.below hbw)
  have HAW := Lib.hid (h1.below hbw)
  have HC1 := Lib.hid (show ∀ X, Below W.heap.size W X → Calls Tryz.prog 82 #[.agg #[.slice Af 37 cf, .slice Ay 37 cy], .slice Aa 38 ca, .int .i64 10006] X (fun e w' => ∃ x, e = .returned x ∧ OwnInts w' W.heap.size tI x (scZ a 10006) ∧ Below W.heap.size W w') from fun X hX => by
    have h := i_scaleMap X (.slice Af 37 cf) (.slice Aa 38 ca) Ay 37 cy a 10006 (HRW.out.below hX) (HAW.out.below hX) l1 n1 (by omega) (by omega)
    exact h.mono (by rintro e w5 ⟨r5, rfl, ho5, hb5⟩; exact ⟨r5, rfl, ho5.mono hX.size, hX.trans (hb5.mono hX.size)⟩))
  have HC2 := Lib.hid (show ∀ X r, Below W.heap.size W X → Ints X r (scZ a 10006) → Calls Tryz.prog 66 #[.agg #[.slice Af 37 cf, .slice Ay 37 cy], r] X (fun e w' => ∃ x, e = .returned x ∧ OwnInts w' X.heap.size tI x (adjZ a) ∧ Below X.heap.size X w') from fun X r hX hr => i_inverseMap X (.slice Ay 37 cy) r Af cf _ (scZ a 10006) (HFW.out.below hX) hr (scZ_len _ _) (scZ_nums _ _))
  clear hR hP h1 l1 n1 hbw
  go_enter Tryz.func72, Tryz.ntmps72
  go_upto_region 1 with fail
  rw [← hW]
  clear hW
  have k1 : W.cell? ⟨w.heap.size, 0, none⟩ = some (.slice Af 37 cf) := HKF.out.cell 0
  have k2 : W.cell? ⟨w.heap.size, 1, none⟩ = some (.slice Ay 37 cy) := HKF.out.cell 1
  go_region_law (first
    | (go_simp; go_at_call 82; (with_reducible refine ((HC1.out _ ?_).mono ?_)); (first | exact Below.refl _ _ | exact (Below.refl _ _).drew); go_loud (rintro e w5 ⟨r5, rfl, ho5, hb5⟩; have HO5 := Lib.hid ho5; have HB5 := Lib.hid hb5; have m1 : w5.cell? ⟨w.heap.size, 0, none⟩ = some (.slice Af 37 cf) := (HKF.out.below hb5 HKF.out.lt).cell 0; have m2 : w5.cell? ⟨w.heap.size, 1, none⟩ = some (.slice Ay 37 cy) := (HKF.out.below hb5 HKF.out.lt).cell 1; clear ho5 hb5))
    | (go_simp; go_at_call 66; (with_reducible refine ((HC2.out _ _ ?_ ?_).mono ?_)); (first | exact HB5.out | exact HB5.out.drew); (exact HO5.out.ints); go_loud (rintro e w6 ⟨r6, rfl, ho6, hb6'⟩; have HB6 := Lib.hid (show Below w5.heap.size w5 w6 from by exact hb6'); have HO6 := Lib.hid (show OwnInts w6 w5.heap.size tI r6 (adjZ a) from by exact ho6); clear ho6 hb6')))
  all_goals
    go_wp2_with fail
    go_ret
    exact ⟨_, rfl, HO6.out.mono (Nat.le_trans HBW.out.size HB5.out.size), (HBW.out.trans (HB5.out.mono HBW.out.size)).trans (HB6.out.mono (Nat.le_trans HBW.out.size HB5.out.size))⟩
set_option maxHeartbeats 4000000 in
theorem s_l18Adjoint (w : World) (v va : Value) (Bp : Nat) (a : List Int) (hC : C7 w Bp v) (h1 : Ints w va a) (l1 : a.length = 38) (n1 : Nums a) (ha0 : a.getD 0 0 = 1) :
    Calls Tryz.prog 69 #[v, va] w fun e w' => ∃ x, e = .returned x ∧ OwnInts w' w.heap.size tI x (adjZ a) ∧ Below w.heap.size w w' := by
  obtain ⟨A, c, rfl, -⟩ := hC.at_
  obtain ⟨Aa, ca, rfl, -, -, -⟩ := h1.open_
  rw [l1] at h1 ⊢
  have h0 : (scZ a 10006).getD 0 0 = 1 := by rw [scZ_head n1]; exact ha0
  have HR := Lib.hid (show refL (scZ a 10006) 37 = adjZ a from (inv_eq h0).symm)
  have HS := Lib.hid (s_l07Scale w (.slice Aa 38 ca) a 10006 h1 l1 n1 (by omega) (by omega))
  have HI := Lib.hid (fun X r (hX : C7 X Bp (.slice A 38 c)) (hr : Ints X r (scZ a 10006)) => s_l07Inverse X (.slice A 38 c) r Bp (scZ a 10006) hX hr (scZ_len _ _) (scZ_nums _ _) h0)
  have HC := Lib.hid hC
  clear hC h1 l1 n1 ha0 h0
  go_enter Tryz.func69, Tryz.ntmps69
  go_wp2_with (first
    | (go_at_call 80; go_loud (refine HS.out.mono ?_; rintro e w1 ⟨x1, rfl, ho1, hb1⟩; have HO1 := Lib.hid ho1; have HB1 := Lib.hid hb1; clear ho1 hb1))
    | (go_at_call 65; go_loud (refine (HI.out _ _ (HC.out.below HB1.out) HO1.out.ints).mono ?_; rintro e w3 ⟨x3, rfl, ho3, hb3⟩; have HO3 := Lib.hid ho3; have HB3 := Lib.hid hb3; clear ho3 hb3)))
  go_ret
  refine ⟨_, rfl, ?_, HB1.out.trans (HB3.out.mono HB1.out.size)⟩
  have h := HO3.out.mono HB1.out.size
  rw [HR.out] at h
  exact h
/-! ### AdjointMap -/
/-! ### IsSymmetricMap -/
end Go.Proofs.YtngdpoeondnchaaGreat

