import Derived.Test.YtofabikjjkapmaaGreatSm24
import Derived.Test.YtofabikjjkapmaaGreatSm11
import Derived.Test.YtofabikjjkapmaaGreatSm3
import Derived.Test.YtofabikjjkapmaaGreatSm21
import Derived.Test.YtofabikjjkapmaaGreatSm5
import Derived.Test.YtofabikjjkapmaaGreatSm17
import Derived.Test.YtofabikjjkapmaaGreatSm30
import Derived.Deep.CutRange
import Derived.Deep.CutBlock
import Derived.Deep.DeepCutAuto
import Derived.Test.YtofabikjjkapmaaGreatSm34
set_option maxRecDepth 100000
set_option linter.unusedVariables false
set_option linter.unusedSimpArgs false
namespace Go.Proofs.YtofabikjjkapmaaGreat
open Go.RowKit
def APR (w : World) (o x : Value) : Prop := ∃ vs, ∀ W', w.grownBy W' o.ownBlock -> Cells W' x vs /\ Rows W' x (T6n.map up)
theorem APR.rows {w : World} {o x : Value} (h : APR w o x) : Rows w x (T6n.map up) := by
 obtain ⟨vs, h⟩ := h
 exact (h w (World.grownBy.refl _ _)).2
theorem APR.step {w w' : World} {o o' x : Value} (h : APR w o x) (hg : Grow w w' o o') : APR w' o' x := by
 obtain ⟨vs, h⟩ := h
 refine ⟨vs, fun W hW => ?_⟩
 have g1 := hg.1
 refine h W ⟨hW.os.trans g1.os, hW.tape.trans g1.tape, hW.output.trans g1.output, Nat.le_trans g1.size hW.size, fun k hk hne => ?_⟩
 have e1 := g1.block k hk hne
 have e2 := hW.block k (Nat.lt_of_lt_of_le hk g1.size) (fun e => by
  rcases hg.2 with h2 | ⟨g, h2, h3⟩
  · exact hne (h2 ▸ e)
  · rw [h2] at e; injection e with e; omega)
 exact e2.trans e1
theorem APR.drew {w : World} {o x : Value} (h : APR w o x) : APR w.drew o x := by
 obtain ⟨vs, h⟩ := h
 exact ⟨vs, fun W hW => h { w with heap := W.heap } ⟨rfl, rfl, rfl, hW.size, hW.block⟩⟩
theorem APR.cell {w W : World} {o : Value} {ad : Addr} {c i : Nat} (h : APR w o (.slice (some ad) 37 c)) (hg : w.grownBy W o.ownBlock) (hi : i < 37) : W.cell? (ad.add i) = w.cell? (ad.add i) := by
 obtain ⟨vs, h⟩ := h
 have h1 := (h w (World.grownBy.refl _ _)).1
 have h2 := (h W hg).1
 obtain ⟨A, c', e, -, -⟩ := h1.open_
 simp only [Value.slice.injEq] at e
 obtain ⟨u, hv⟩ : ∃ u, vs[i]? = some u := ⟨_, List.getElem?_eq_getElem (by omega)⟩
 obtain ⟨a1, n1, c1, e1, k1⟩ := h1.at_ hv
 obtain ⟨a2, n2, c2, e2, k2⟩ := h2.at_ hv
 simp only [Value.slice.injEq, Option.some.injEq] at e1 e2
 rw [<- e1.1] at k1
 rw [<- e2.1] at k2
 rw [k1, k2]
theorem APR.after {w3 : World} {B : Nat} {x : Value} (h : LA w3 B x (T6n.map up)) (v : Value) (t : TypeId) : APR (w3.alloc (.cells #[v] t)) (.slice (some ⟨w3.heap.size, 0, none⟩) 1 1) x := by
 have h0 := h
 obtain ⟨vs, h1, -, -⟩ := h0
 refine ⟨vs, fun W hW => ?_⟩
 have hb : Below w3.heap.size w3 W := (below1 w3 (.cells #[v] t)).grown hW (by simp) (fun b hb => by simp [Value.ownBlock] at hb; omega)
 exact ⟨(h1.below hb).cells, (h.below hb).rows⟩
theorem APR.before {w3 : World} {B g : Nat} {x : Value} (h : LA w3 B x (T6n.map up)) (hg : g < B) : APR w3 (.slice (some ⟨g, 0, none⟩) 1 1) x := by
 have h0 := h
 obtain ⟨vs, h1, -, -⟩ := h0
 refine ⟨vs, fun W hW => ⟨(h1.kept hW ?_).cells, (h.keptLt' hW hg).rows⟩⟩
 cases hb : x.ownBlock with
 | none => exact .inl rfl
 | some b => exact .inr fun e => by injection e with e; have := h1.ge b hb; have e : b = g := e; omega
set_option maxHeartbeats 8000000 in
theorem s_l07Scale (w : World) (va : Value) (a : List Int) (k : Int) (h1 : Ints w va a) (l1 : a.length = 38) (hN1 : Nums a) (hk0 : 0 <= k) (hk1 : k <= 10006) :
  Calls Tryz.prog 214 #[va, .int .i64 k] w fun e w' => ∃ x, e = .returned x /\ OwnInts w' w.heap.size tI x (scZ a k) /\ Below w.heap.size w w' := by
 obtain ⟨Aa, ca, rfl, -, -, -⟩ := h1.open_
 rw [l1] at h1 ⊢
 obtain ⟨ada, rfl, hc0, hy0, hy1⟩ := map_cell h1 hN1 (k := 0) (by omega)
 have HS0 := Lib.hid (show ints ((scZ a k).take 1) = [.int .i64 (a.getD 0 0)] from by
  have h := scZ_step a k (i := 0) (by omega)
  rw [h, szN_zero, show pw k 0 = 1 from by simp [pw], Int.mul_one, show a.getD 0 0 % 10007 = a.getD 0 0 from by omega]
  rfl)
 obtain ⟨y0, hy0'⟩ : ∃ y0, y0 = a.getD 0 0 := ⟨_, rfl⟩
 rw [<- hy0'] at hc0 HS0
 have hc0' : w.cell? ada = some (.int .i64 y0) := by simpa [Addr.add] using hc0
 have HC0 := Lib.hid hc0'
 have HA := Lib.hid h1
 have HNA := Lib.hid hN1
 have HSZ := Lib.hid (scZ_len a k)
 clear hy0' hy0 hy1 hc0 h1 hN1 l1
 go_enter Tryz.func214, Tryz.ntmps214
 go_upto_region 1 with fail
 go_cut [5, 6] (fun x o wx => ∃ A c, x = .slice A 37 c /\ APR wx o (.slice A 37 c) /\ Own wx w.heap.size tI o (ints ((scZ a k).take 1)) /\ Below w.heap.size w wx)
 case first =>
  go_region_law ((go_simp; go_at_call 61; refine (s_l03All _ 6 (by omega)).mono ?_; rintro e w3 ⟨x3, rfl, hx3, hb3⟩; rw [show allG treesN 6 = T6n from rfl] at hx3; obtain ⟨A3, c3, he3, -, -, -⟩ := hx3.rows.open_; rw [List.length_map, T6n_len] at he3; subst he3; have HX3 := Lib.hid hx3; have HB3 := Lib.hid hb3; have hk3 : w3.cell? ada = some (.int .i64 y0) := keepCell (by first | exact below_of_drew hb3 | exact (below1 w _).trans ((below_of_drew hb3).mono (by simp))) HC0.out; clear hx3 hb3))
  all_goals
   go_wp2_with fail
   go_meet
  all_goals first
   | exact ⟨_, _, rfl, APR.after HX3.out _ _, by rw [HS0.out]; exact (own_lit w3 tI [.int .i64 y0] (by simp [maxLen])).mono (below_of_drew HB3.out).size, (below_of_drew HB3.out).alloc (below_of_drew HB3.out).size _⟩
   | exact ⟨_, _, rfl, APR.before HX3.out (by simp), by rw [HS0.out]; exact (own_lit w tI [.int .i64 y0] (by simp [maxLen])).below (below_of_drew HB3.out), (below1 w _).trans ((below_of_drew HB3.out).mono (by simp))⟩
 case rest =>
  obtain ⟨A, c, rfl, hr, ho, hb⟩ := hcut
  have HR := Lib.hid hr
  have OL := Lib.hid ho
  have OB := Lib.hid hb
  clear hr ho hb hc0'
  go_wp2_with fail
  go_loopw [6, 7] (fun o x wr => ∃ i : Nat, i <= 37 /\ x = .int .i64 i /\ Own wr w.heap.size tI o (ints ((scZ a k).take (i + 1))) /\ Below w.heap.size w wr /\ Hid (APR wr o (.slice A 37 c))) (fun _ x _ => 37 - (intOf x).toNat)
  case atStart => exact ⟨0, Nat.zero_le _, rfl, OL.out, OB.out, HR⟩
  case round =>
   obtain ⟨i, hi, rfl, ho, hb, HRQ⟩ := hrel
   rename World => wq
   clear OL OB HR
   have hel : ((scZ a k).take (i + 1)).length = i + 1 := by rw [List.length_take, HSZ.out]; omega
   have hol := ho.cells.open_
   rw [ints_len, hel] at hol
   obtain ⟨Ao, co, rfl, -, -⟩ := hol
   have HEL := Lib.hid hel
   have HO := Lib.hid ho
   have HBQ := Lib.hid hb
   clear ho hel
   by_cases hlt : i < 37
   · obtain ⟨ad, At, ct, t, rfl, ht, hti, hcr⟩ := HRQ.out.rows.tree hlt
     obtain ⟨_, he, hcx, hx0, hx1⟩ := map_cell (HA.out.below hb) HNA.out (k := i + 1) (by omega)
     simp only [Option.some.injEq] at he
     subst he
     have hcx : wq.cell? ⟨ada.block, ada.off + (i + 1), none⟩ = some (.int .i64 (a.getD (i + 1) 0)) := by simpa [Addr.add] using hcx
     have HTS := Lib.hid (scZ_step a k (i := i + 1) (by omega))
     rw [szN_succ ht] at HTS
     have hsz : t.length <= 6 := (T6n_at (List.mem_of_getElem? ht)).2.2.1
     have hpb := pw_bd k t.length
     have HPW := Lib.hid (fun W => show Calls Tryz.prog 190 #[.int .i64 k, .int .i64 (t.length : Nat)] W fun e w' => e = .returned (.int .i64 (pw k t.length)) /\ W = w' from by
      have h := s_l01Pow k (t.length : Nat) W hk0 (by omega) (by omega) (by omega)
      rwa [Int.toNat_natCast] at h)
     obtain ⟨P, hP⟩ : ∃ P, P = pw k t.length := ⟨_, rfl⟩
     rw [<- hP] at hpb HPW HTS
     have HCX := Lib.hid (show ∀ W', Below w.heap.size w W' -> W'.cell? ⟨ada.block, ada.off + (i + 1), none⟩ = some (.int .i64 (a.getD (i + 1) 0)) from fun W' hW => by
      obtain ⟨_, he, h1, -, -⟩ := map_cell (HA.out.below hW) HNA.out (k := i + 1) (by omega)
      simp only [Option.some.injEq] at he
      subst he
      simpa [Addr.add] using h1)
     generalize a.getD (i + 1) 0 = y at *
     have HMU := Lib.hid (fun W => s_l01Mul y P W hx0 (by omega) hpb.1 (by omega))
     generalize t.length = tn at *
     have QQ := Lib.hid (show ∀ W', Below wq.heap.size wq W' -> W'.cell? ⟨ada.block, ada.off + (i + 1), none⟩ = some (.int .i64 y) /\ W'.cell? (ad.add i) = some (.slice At tn ct) from fun W' h => ⟨keepCell h hcx, keepCell h hcr⟩)
     have HCR := Lib.hid hcr
     have hii : (i : Int) < 37 := by omega
     have hi1 : (i : Int) + 1 < 38 := by omega
     clear hb hP ht hti hcx hcr
     go_upto_region 5 with fail
     have hwr : IntKind.i64.wrap ((i : Int) + 1) = (i : Int) + 1 := IntWalk.i64_in _ (by omega)
     have htn1 : ((i : Int) + 1).toNat = i + 1 := by omega
     have hin0 : (0 : Int) <= (i : Int) + 1 := by omega
     refine AnyT.begin (k := 15) (S := fun b w' => (w'.cell? ⟨ada.block, ada.off + (i + 1), none⟩ = some (.int .i64 y) /\ w'.cell? (ad.add i) = some (.slice At tn ct)) /\ True) (by kernel_rfl) ?_
     have hS : (fun (b : Bool) (w' : World) => (w'.cell? ⟨ada.block, ada.off + (i + 1), none⟩ = some (.int .i64 y) /\ w'.cell? (ad.add i) = some (.slice At tn ct)) /\ True) false wq.drew := ⟨QQ.out _ (Below.refl wq.heap.size wq).drew, trivial⟩
     refine AnyT.take0 (i := 0) (v := ?_) rfl (by kernel_rfl) (by kernel_rfl) (by kernel_rfl) (by decide) (fun _ _ _ h => h) hS (Or.inl ⟨by first | kernel_rfl | rfl, ?_⟩) ?_
     rotate_left
     · intro w' hw'; clear hw'; go_simp; try with_reducible rfl
     try simp only [Act.put, List.setIfInBounds_toArray, List.set_cons_zero, List.set_cons_succ]
     refine AnyT.take0 (i := 1) (v := ?_) rfl (by kernel_rfl) (by kernel_rfl) (by kernel_rfl) (by decide) (fun _ _ _ h => h) hS (Or.inl ⟨by first | kernel_rfl | rfl, ?_⟩) ?_
     rotate_left
     · intro w' hw'; clear hw'; go_simp; try with_reducible rfl
     try simp only [Act.put, List.setIfInBounds_toArray, List.set_cons_zero, List.set_cons_succ]
     refine AnyT.take0 (i := 2) (v := ?_) rfl (by kernel_rfl) (by kernel_rfl) (by kernel_rfl) (by decide) (fun _ _ _ h => h) hS (Or.inl ⟨by first | kernel_rfl | rfl, ?_⟩) ?_
     rotate_left
     · intro w' hw'; clear hw'; go_simp; try with_reducible rfl
     try simp only [Act.put, List.setIfInBounds_toArray, List.set_cons_zero, List.set_cons_succ]
     refine AnyT.take0 (i := 3) (v := ?_) rfl (by kernel_rfl) (by kernel_rfl) (by kernel_rfl) (by decide) (fun _ _ _ h => h) hS (Or.inl ⟨by first | kernel_rfl | rfl, ?_⟩) ?_
     rotate_left
     · intro w' hw'; clear hw'; go_simp; try with_reducible rfl
     try simp only [Act.put, List.setIfInBounds_toArray, List.set_cons_zero, List.set_cons_succ]
     refine AnyT.take0 (i := 4) (v := ?_) rfl (by kernel_rfl) (by kernel_rfl) (by kernel_rfl) (by decide) (fun _ _ _ h => h) hS (Or.inl ⟨by first | kernel_rfl | rfl, ?_⟩) ?_
     rotate_left
     · intro w' hw'; clear hw'; go_simp; try with_reducible rfl
     try simp only [Act.put, List.setIfInBounds_toArray, List.set_cons_zero, List.set_cons_succ]
     refine AnyT.take0 (i := 5) (v := ?_) rfl (by kernel_rfl) (by kernel_rfl) (by kernel_rfl) (by decide) (fun _ _ _ h => h) hS (Or.inl ⟨by first | kernel_rfl | rfl, ?_⟩) ?_
     rotate_left
     · rintro w' ⟨b, hw'⟩; obtain ⟨hw1, -⟩ := hw'; (try (obtain ⟨hw1, hw2⟩ := hw1)); (try (obtain ⟨hw2, hw3⟩ := hw2)); (try (obtain ⟨hw3, hw4⟩ := hw3)); go_simp; try with_reducible rfl
     try simp only [Act.put, List.setIfInBounds_toArray, List.set_cons_zero, List.set_cons_succ]
     refine AnyT.take0 (i := 6) (v := ?_) rfl (by kernel_rfl) (by kernel_rfl) (by kernel_rfl) (by decide) (fun _ _ _ h => h) hS (Or.inl ⟨by first | kernel_rfl | rfl, ?_⟩) ?_
     rotate_left
     · intro w' hw'; clear hw'; go_simp; try with_reducible rfl
     try simp only [Act.put, List.setIfInBounds_toArray, List.set_cons_zero, List.set_cons_succ]
     refine AnyT.take0 (i := 7) (v := ?_) rfl (by kernel_rfl) (by kernel_rfl) (by kernel_rfl) (by decide) (fun _ _ _ h => h) hS (Or.inl ⟨by first | kernel_rfl | rfl, ?_⟩) ?_
     rotate_left
     · intro w' hw'; clear hw'; go_simp; try with_reducible rfl
     try simp only [Act.put, List.setIfInBounds_toArray, List.set_cons_zero, List.set_cons_succ]
     refine AnyT.take0 (i := 8) (v := ?_) rfl (by kernel_rfl) (by kernel_rfl) (by kernel_rfl) (by decide) (fun _ _ _ h => h) hS (Or.inl ⟨by first | kernel_rfl | rfl, ?_⟩) ?_
     rotate_left
     · intro w' hw'; clear hw'; go_simp; try with_reducible rfl
     try simp only [Act.put, List.setIfInBounds_toArray, List.set_cons_zero, List.set_cons_succ]
     refine AnyT.take0 (i := 9) (v := ?_) rfl (by kernel_rfl) (by kernel_rfl) (by kernel_rfl) (by decide) (fun _ _ _ h => h) hS (Or.inl ⟨by first | kernel_rfl | rfl, ?_⟩) ?_
     rotate_left
     · intro w' hw'; clear hw'; go_simp; try with_reducible rfl
     try simp only [Act.put, List.setIfInBounds_toArray, List.set_cons_zero, List.set_cons_succ]
     refine AnyT.take0 (i := 10) (v := ?_) rfl (by kernel_rfl) (by kernel_rfl) (by kernel_rfl) (by decide) (fun _ _ _ h => h) hS (Or.inl ⟨by first | kernel_rfl | rfl, ?_⟩) ?_
     rotate_left
     · rintro w' ⟨b, hw'⟩; obtain ⟨hw1, -⟩ := hw'; (try (obtain ⟨hw1, hw2⟩ := hw1)); (try (obtain ⟨hw2, hw3⟩ := hw2)); (try (obtain ⟨hw3, hw4⟩ := hw3)); go_simp; try with_reducible rfl
     try simp only [Act.put, List.setIfInBounds_toArray, List.set_cons_zero, List.set_cons_succ]
     refine AnyT.take0 (i := 11) (v := ?_) rfl (by kernel_rfl) (by kernel_rfl) (by kernel_rfl) (by decide) (fun _ _ _ h => h) hS (Or.inl ⟨by first | kernel_rfl | rfl, ?_⟩) ?_
     rotate_left
     · intro w' hw'; clear hw'; go_simp; try with_reducible rfl
     try simp only [Act.put, List.setIfInBounds_toArray, List.set_cons_zero, List.set_cons_succ]
     refine AnyT.go (rs := [12]) (by kernel_rfl) (by simp) ?_
     refine AllT.cons rfl (fun K hK => ?_) AllT.nil
     go_simp
     refine (HPW.out wq.drew).mono ?_
     rintro e w5 ⟨rfl, rfl⟩
     refine hK.out _ _ ⟨QQ.out _ (Below.refl wq.heap.size wq).drew, trivial⟩ (fun hS => ?_)
     clear hK
     try simp only [Act.put, List.setIfInBounds_toArray, List.set_cons_zero, List.set_cons_succ]
     refine AnyT.go (rs := [13]) (by kernel_rfl) (by simp) ?_
     refine AllT.cons rfl (fun K hK => ?_) AllT.nil
     go_simp
     refine (HMU.out wq.drew).mono ?_
     rintro e w5 ⟨rfl, rfl⟩
     refine hK.out _ _ ⟨QQ.out _ (Below.refl wq.heap.size wq).drew, trivial⟩ (fun hS => ?_)
     clear hK
     try simp only [Act.put, List.setIfInBounds_toArray, List.set_cons_zero, List.set_cons_succ]
     refine AnyT.go (rs := [14]) (by kernel_rfl) (by simp) ?_
     refine AllT.cons rfl (fun K hK => ?_) AllT.nil
     go_simp
     have HB6 := Lib.hid (show Below wq.heap.size wq (wq.drew.alloc (.cells #[.int .i64 (y * P % 10007)] tI)) from (Below.refl wq.heap.size wq).drew.trans (below1 wq.drew _))
     refine hK.out _ _ ⟨QQ.out _ HB6.out, trivial⟩ (fun hS => ?_)
     clear hK
     try simp only [Act.put, List.setIfInBounds_toArray, List.set_cons_zero, List.set_cons_succ]
     refine AnyT.go (rs := [15]) (by kernel_rfl) (by simp) ?_
     refine AllT.cons rfl (fun K hK => ?_) AllT.nil
     refine step_app1 T_int (W := wq.drew) (u := .int .i64 (y * P % 10007)) (HO.out.below (Below.refl wq.heap.size wq).drew) (by rw [ints_len, HEL.out]; omega) HBQ.out.size rfl (by rfl) rfl (by rfl) (by rfl) ?_
     intro v7 w7 hown7 hgr7
     have HN7 := Lib.hid hown7
     have HB7 := Lib.hid (show Below w.heap.size w w7 from hgr7.below (HBQ.out.drew) HBQ.out.size HO.out.ge)
     have HBC7 := Lib.hid hgr7
     have CL7 := Lib.hid (show w7.cell? ⟨ada.block, ada.off + (i + 1), none⟩ = some (.int .i64 y) /\ w7.cell? (ad.add i) = some (.slice At tn ct) from ⟨HCX.out w7 HB7.out, by rw [HRQ.out.drew.cell hgr7.1 hlt]; exact HCR.out⟩)
     refine hK.out _ _ ⟨CL7.out, trivial⟩ (fun hS => ?_)
     clear hK hown7 hgr7
     try simp only [Act.put, List.setIfInBounds_toArray, List.set_cons_zero, List.set_cons_succ]
     refine AnyT.take0 (i := 16) (v := ?_) rfl (by kernel_rfl) (by kernel_rfl) (by kernel_rfl) (by decide) (fun _ _ _ h => h) hS (Or.inl ⟨by first | kernel_rfl | rfl, ?_⟩) ?_
     rotate_left
     · intro w' hw'; clear hw'; go_simp; try with_reducible rfl
     try simp only [Act.put, List.setIfInBounds_toArray, List.set_cons_zero, List.set_cons_succ]
     clear hS
     refine AnyT.done (by kernel_rfl) ?_ _
     go_wp2_with fail
     go_roundw
     case rel =>
      refine ⟨i + 1, by omega, by go_num, ?_, HB7.out, ?_⟩
      · rw [HTS.out]; exact HN7.out
      · exact Lib.hid (HRQ.out.drew.step HBC7.out)
     case measure => simp [intOf]; omega
   · have hil : i + 1 = (scZ a k).length := by rw [HSZ.out]; omega
     have HFF := Lib.hid (show (scZ a k).take (i + 1) = scZ a k from by rw [hil]; exact List.take_length)
     clear hil
     go_wp2_with fail
     go_ret
     refine ⟨_, rfl, ⟨?_, fun z hz => in64_num (scZ_nums a k z hz)⟩, HBQ.out⟩
     have h := HO.out
     rw [HFF.out] at h
     exact h
def M38 (w : World) (C g cap : Nat) : Prop := ∃ us, OwnInts w C tI (.slice (some ⟨g, 0, none⟩) 38 cap) us /\ us.length = 38 /\ Nums us
theorem M38.src {w w' : World} {C p g cap : Nat} (h : M38 w C g cap) (hp : p < C) (hg : w.grownBy w' (some p)) : M38 w' C g cap := by
 obtain ⟨us, h1, h2, h3⟩ := h
 exact ⟨us, ⟨h1.1.src hp hg, h1.2⟩, h2, h3⟩
theorem M38.mono {w : World} {C C' g cap : Nat} (h : M38 w C g cap) (hC : C' <= C) : M38 w C' g cap := by
 obtain ⟨us, h1, h2, h3⟩ := h
 exact ⟨us, h1.mono hC, h2, h3⟩
theorem M38.ge {w : World} {C g cap : Nat} (h : M38 w C g cap) : C <= g := by
 obtain ⟨us, h1, h2, h3⟩ := h
 exact h1.1.ge g rfl
theorem M38.cap {w : World} {C g cap : Nat} (h : M38 w C g cap) : 38 <= cap := by
 obtain ⟨us, h1, h2, h3⟩ := h
 obtain ⟨A', c', e, h5, -⟩ := h1.1.cells.open_
 rw [ints_len, h2] at e h5
 simp only [Value.slice.injEq] at e
 omega
theorem M38.of {w : World} {C : Nat} {v : Value} {us : List Int} (h : OwnInts w C tI v us) (hl : us.length = 38) (hn : Nums us) : ∃ g cap, v = .slice (some ⟨g, 0, none⟩) 38 cap /\ M38 w C g cap := by
 rcases h.1.cases with ⟨-, he⟩ | ⟨g, cap, cur, he, -⟩
 · have h1 := congrArg List.length he; rw [ints_len, hl] at h1; cases h1
 · rw [ints_len, hl] at he; subst he; exact ⟨g, cap, rfl, us, h, hl, hn⟩
theorem nums_set {us : List Int} (h : Nums us) {z : Int} (hz : 0 <= z /\ z <= 10006) (k : Nat) : Nums (us.set k z) := fun y hy => by
 rcases List.mem_or_eq_of_mem_set hy with h1 | rfl
 · exact h y h1
 · exact hz
theorem M38.set_ {w : World} {C g cap k : Nat} (h : M38 w C g cap) (hk : k < 38) {z : Int} (hz : 0 <= z /\ z <= 10006) :
  (∃ u0, w.cell? ⟨g, k, none⟩ = some u0) /\ w.frozen? ⟨g, k, none⟩ = false /\ M38 (w.setCell ⟨g, k, none⟩ (.int .i64 z)) C g cap /\ w.grownBy (w.setCell ⟨g, k, none⟩ (.int .i64 z)) (some g) := by
 obtain ⟨us, h1, h2, h3⟩ := h
 obtain ⟨hu, hf, ho, hg⟩ := h1.setAt (k := k) (by omega) (in64_n hz)
 exact ⟨hu, hf, ⟨_, ho, by rw [List.length_set]; exact h2, nums_set h3 hz k⟩, hg⟩
theorem M38.dr {w : World} {C g cap : Nat} (h : M38 w C g cap) : DrM w C g 0 38 cap := by
 obtain ⟨us, h1, h2, h3⟩ := h
 exact ⟨⟨cap, us, h1, h2, rfl⟩, rfl, by omega⟩
theorem M38.dr1 {w : World} {C g cap : Nat} (h : M38 w C g cap) : DrM w C g 1 37 (cap - 1) := by
 have hc := h.cap
 obtain ⟨us, h1, h2, h3⟩ := h
 exact ⟨⟨cap, us, h1, h2, by omega⟩, rfl, by omega⟩
set_option maxHeartbeats 4000000 in
theorem s_l01Spoil (w : World) (B p : Nat) (h : Src w B tSc p) :
  Calls Tryz.prog 127 #[at0 p] w fun e w' => ∃ z, e = .returned (.int .i64 z) /\ In64 z /\ w.grownBy w' (some p) /\ Src w' B tSc p := by
 have HN := Lib.hid (s_l01Next w B p 30 h (by omega) (by omega))
 have hpl := h.lt
 clear h
 go_enter Tryz.func127, Tryz.ntmps127
 go_upto_if 5 with (go_at_call 111; go_loud (refine HN.out.mono ?_; rintro e w1 ⟨x, rfl, x0, x1, hg, hs⟩; have HG := Lib.hid hg; have HS := Lib.hid hs; clear hg hs x0 x1))
 have hpl1 : p < w1.heap.size := Nat.lt_of_lt_of_le hpl HG.out.size
 by_cases hx : x = 0
 · have hd0 : (x == 0) = true := by simp [hx]
   rw [hd0]
   have HL := Lib.hid (lit_keep w1 p [-1, 10007, 1099511627776, -4611686018427387904] (by intro z hz; simp at hz; unfold In64; omega) (by simp) hpl1)
   have HSL := Lib.hid (HS.out.below (below1 w1 (.cells (ints [-1, 10007, 1099511627776, -4611686018427387904]).toArray tI)))
   have HPK := Lib.hid (s_l01Pick _ B p _ [-1, 10007, 1099511627776, -4611686018427387904] HSL.out HL.out (by simp) (by simp))
   clear hx hd0
   go_wp2_with (go_at_call 126; go_loud (refine HPK.out.mono ?_; rintro e w2 ⟨y, rfl, hy, hg, hs⟩; have HG2 := Lib.hid (gtrans (gtrans HG.out (gof (below1 w1 _))) hg); have HS2 := Lib.hid hs; have HY := Lib.hid hy; clear hg hs hy))
   go_ret
   exact ⟨_, rfl, by have := HY.out; simp at this; unfold In64; omega, HG2.out, HS2.out⟩
 · have hd0 : (x == 0) = false := by simp [hx]
   rw [hd0]
   clear hx hd0
   go_wp2_with (go_at_call 114; go_loud (refine (s_l01Number _ B p HS.out).mono ?_; rintro e w2 ⟨y, rfl, hy, hg, hs⟩; have HG2 := Lib.hid (gtrans HG.out hg); have HS2 := Lib.hid hs; have HY := Lib.hid hy; clear hg hs hy))
   go_ret
   exact ⟨_, rfl, in64_n HY.out, HG2.out, HS2.out⟩
set_option maxHeartbeats 16000000 in
theorem s_l07Draw (w : World) (B p : Nat) (f : Int) (h : Src w B tSc p) (hf : 0 <= f /\ f <= 10006) :
  Calls Tryz.prog 167 #[at0 p, .int .i64 f] w fun e w' => ∃ g cap, e = .returned (.slice (some ⟨g, 0, none⟩) 38 cap) /\ M38 w' w.heap.size g cap /\ w.grownBy w' (some p) /\ Src w' B tSc p := by
 have hpl := h.lt
 have HBp := Lib.hid h.ge
 have HF := Lib.hid hf
 have OL := Lib.hid (show Own (w.alloc (.cells #[.int .i64 f] tI)) w.heap.size tI (.slice (some ⟨w.heap.size, 0, none⟩) 1 1) (ints [f]) from own_lit w tI [.int .i64 f] (by simp [maxLen]))
 have HS0 := Lib.hid (h.below (below1 w (.cells #[.int .i64 f] tI)))
 have HG0 := Lib.hid (show w.grownBy (w.alloc (.cells #[.int .i64 f] tI)) (some p) from gof (below1 w _))
 have HN := Lib.hid (s_l01Next _ B p 6 HS0.out (by omega) (by omega))
 clear h hf
 go_enter Tryz.func167, Tryz.ntmps167
 go_upto_region 3 with (go_at_call 111; go_loud (refine HN.out.mono ?_; rintro e w1 ⟨x, rfl, x0, x1, hg, hs⟩; have HG1 := Lib.hid (gtrans HG0.out hg); have HS1 := Lib.hid hs; have HO1 := Lib.hid (OL.out.src hpl hg); clear hg hs x0 x1))
 clear OL HS0 HG0 HN
 by_cases hx : x = 0
 · have hd0 : (x == 0) = true := by simp [hx]
   clear hx HO1
   go_upto_region 5 with (go_at_call 62; go_loud (refine (s_l07Exact _).mono ?_; rintro e w2 ⟨x2, rfl, ho2, hb2⟩; obtain ⟨g, cap, rfl, hm⟩ := M38.of ho2 EX_len EX_nums; have HM2 := Lib.hid hm; have HG2 := Lib.hid (gtrans HG1.out (gof hb2)); have HS2 := Lib.hid (HS1.out.below hb2); have hgw : w.heap.size <= g := Nat.le_trans HG1.out.size hm.ge; clear ho2 hb2 hm))
   have hgp : g ≠ p := by omega
   have HM2 := Lib.hid (HM2.out.mono HG1.out.size)
   obtain ⟨⟨u0, hu0⟩, hfr, ho3, hg3⟩ := HM2.out.set_ (k := 0) (by omega) HF.out
   have HM3 := Lib.hid ho3
   have HG3 := Lib.hid (gthen HG2.out hg3 (by rintro b ⟨⟩; exact hgw))
   have HS3 := Lib.hid (HS2.out.kept hg3 (by intro e; injection e with e; exact hgp e) (by rintro b ⟨⟩; have := HBp.out; omega))
   clear ho3 hg3
   go_upto_region 6 with fail
   generalize w2.setCell ⟨g, 0, none⟩ (.int .i64 f) = w3 at HM3 HG3 HS3 ⊢
   clear hu0 hfr HM2 HG2 HS2 hd0
   go_upto_if 20 with (go_at_call 111; go_loud (refine (s_l01Next _ B p 2 HS3.out (by omega) (by omega)).mono ?_; rintro e w4 ⟨y, rfl, y0, y1, hg, hs⟩; have HG4 := Lib.hid (gtrans HG3.out hg); have HS4 := Lib.hid hs; have HM4 := Lib.hid (HM3.out.src hpl hg); clear hg hs y0 y1))
   go_cut [5] (fun v wx => ∃ g cap, v = .slice (some ⟨g, 0, none⟩) 38 cap /\ M38 wx w.heap.size g cap /\ w.grownBy wx (some p) /\ Src wx B tSc p)
   case first =>
    go_wp2_with (first
     | (go_at_call 114; go_loud (refine (s_l01Number _ B p HS4.out).mono ?_; rintro e w5 ⟨q, rfl, hq, hg, hs⟩; have HG5 := Lib.hid (gtrans HG4.out hg); have HS5 := Lib.hid hs; have HQ := Lib.hid hq; have HM5 := Lib.hid (HM4.out.src hpl hg); obtain ⟨us, hus, hul, hun⟩ := HM5.out; have HUS := Lib.hid hus.ints; have HUL := Lib.hid (And.intro hul hun); clear hg hs hq hus hul hun))
     | (go_at_call 214; go_loud ((with_reducible refine (s_l07Scale _ _ us q HUS.out HUL.out.1 HUL.out.2 HQ.out.1 HQ.out.2).mono ?_); rintro e w6 ⟨x6, rfl, ho6, hb6⟩; obtain ⟨g6, cap6, rfl, hm6⟩ := M38.of ho6 (scZ_len _ _) (scZ_nums _ _); have HM6 := Lib.hid (hm6.mono HG5.out.size); have HG6 := Lib.hid (gtrans HG5.out (gof hb6)); have HS6 := Lib.hid (HS5.out.below hb6); clear ho6 hb6 hm6)))
    · go_meet
      exact ⟨_, _, rfl, HM6.out, HG6.out, HS6.out⟩
    · go_meet
      exact ⟨_, _, rfl, HM4.out, HG4.out, HS4.out⟩
   case rest =>
    obtain ⟨g7, cap7, rfl, hm, hg, hs⟩ := hcut
    have HM7 := Lib.hid hm
    have HG7 := Lib.hid hg
    have HS7 := Lib.hid hs
    clear hm hg hs HM4 HG4 HS4 HM3 HG3 HS3 hgp hgw
    go_wp2_with (go_at_call 111; go_loud (refine (s_l01Next _ B p 3 HS7.out (by omega) (by omega)).mono ?_; rintro e w8 ⟨y, rfl, y0, y1, hg, hs⟩; obtain ⟨m, rfl⟩ : ∃ m : Nat, y = m := ⟨y.toNat, by omega⟩; have hm3 : m <= 3 := (by omega); have HG8 := Lib.hid (gtrans HG7.out hg); have HS8 := Lib.hid hs; have HM8 := Lib.hid (HM7.out.src hpl hg); clear hg hs y0 y1))
    go_loopw [6] (fun x wr => ∃ m : Nat, m <= 3 /\ x = .int .i64 m /\ M38 wr w.heap.size g7 cap7 /\ w.grownBy wr (some p) /\ Src wr B tSc p) (fun x _ => (intOf x).toNat)
    case atStart => exact ⟨m, hm3, rfl, HM8.out, HG8.out, HS8.out⟩
    case round =>
     obtain ⟨m, hm3, rfl, hm, hg, hs⟩ := hrel
     rename World => wq
     clear HM7 HG7 HS7 HM8 HG8 HS8
     have HM := Lib.hid hm
     have HG := Lib.hid hg
     have HS := Lib.hid hs
     have hgw : w.heap.size <= g7 := hm.ge
     have hgp : g7 ≠ p := by omega
     clear hm hg hs
     by_cases hlt : 0 < m
     · have hll : (0 : Int) < (m : Int) := by omega
       have hmd : decide (0 < m) = true := decide_eq_true hlt
       go_wp2_with (first
        | (go_at_call 111; go_loud (refine (s_l01Next _ B p 37 HS.out (by omega) (by omega)).mono ?_; rintro e w9 ⟨y, rfl, y0, y1, hg, hs⟩; obtain ⟨k, rfl⟩ : ∃ k : Nat, y = k := ⟨y.toNat, by omega⟩; have hk37 : k < 37 := (by omega); have hwk : wrap64 (1 + (k : Int)) = 1 + (k : Int) := w64_dr _ (by omega); have hkc : 1 + (k : Int) < 38 := (by omega); have hkd : (1 + (k : Int)).toNat = 1 + k := (by omega); have HG9 := Lib.hid (gtrans HG.out hg); have HS9 := Lib.hid hs; have HM9 := Lib.hid (HM.out.src hpl hg); clear hg hs y0 y1))
        | (go_at_call 114; go_loud (refine (s_l01Number _ B p HS9.out).mono ?_; rintro e w10 ⟨z, rfl, hz, hg, hs⟩; have HG10 := Lib.hid (gtrans HG9.out hg); have HS10 := Lib.hid hs; have HM10 := Lib.hid (HM9.out.src hpl hg); obtain ⟨⟨u1, hu1⟩, hfr1, ho11, hg11⟩ := HM10.out.set_ (k := 1 + k) (by omega) hz; have HM11 := Lib.hid ho11; have HG11 := Lib.hid (gthen HG10.out hg11 (by rintro b ⟨⟩; exact hgw)); have HS11 := Lib.hid (HS10.out.kept hg11 (by intro e; injection e with e; exact hgp e) (by rintro b ⟨⟩; have := HBp.out; omega)); clear hg hs hz ho11 hg11)))
       go_roundw
       case rel => exact ⟨m - 1, by omega, by rw [show ((m - 1 : Nat) : Int) = (m : Int) - 1 by omega], HM11.out, HG11.out, HS11.out⟩
       case measure => simp [intOf]; omega
     · have hm0 : m = 0 := by omega
       subst hm0
       go_wp2_with fail
       go_ret
       exact ⟨_, _, rfl, HM.out, HG.out, HS.out⟩
 · have hd0 : (x == 0) = false := by simp [hx]
   by_cases hx1 : x = 1
   · have hd1 : (x == 1) = true := by simp [hx1]
     clear hx hx1 HO1
     have hgw0 : w.heap.size <= w1.heap.size := HG1.out.size
     go_upto_region 15 with (at_make; refine wpList_mk rfl _ _ _ rfl _ _ _ T_int 38 _ rfl rfl rfl (by omega) _ ?_; intro w2 hown hb2 hs2; have HM2 := Lib.hid (show M38 w2 w.heap.size w1.heap.size 38 from ⟨List.replicate 38 0, ⟨(show Own w2 w1.heap.size tI _ (ints (List.replicate 38 0)) from hown).mono hgw0, fun z hz => by rw [List.eq_of_mem_replicate hz]; unfold In64; omega⟩, by simp, fun z hz => by rw [List.eq_of_mem_replicate hz]; omega⟩); have HG2 := Lib.hid (gtrans HG1.out (gof hb2)); have HS2 := Lib.hid (HS1.out.below hb2); clear hown hb2 hs2)
     generalize w1.heap.size = g7 at hgw0 HM2 ⊢
     have hgp : g7 ≠ p := by omega
     obtain ⟨⟨u0, hu0⟩, hfr, ho3, hg3⟩ := HM2.out.set_ (k := 0) (by omega) HF.out
     have HM3 := Lib.hid ho3
     have HG3 := Lib.hid (gthen HG2.out hg3 (by rintro b ⟨⟩; exact hgw0))
     have HS3 := Lib.hid (HS2.out.kept hg3 (by intro e; injection e with e; exact hgp e) (by rintro b ⟨⟩; have := HBp.out; omega))
     clear ho3 hg3
     go_upto_region 16 with fail
     generalize w2.setCell ⟨g7, 0, none⟩ (.int .i64 f) = w3 at HM3 HG3 HS3 ⊢
     clear hu0 hfr HM2 HG2 HS2
     go_wp2_with (go_at_call 111; go_loud (refine (s_l01Next _ B p 4 HS3.out (by omega) (by omega)).mono ?_; rintro e w8 ⟨y, rfl, y0, y1, hg, hs⟩; obtain ⟨m, rfl⟩ : ∃ m : Nat, y = m := ⟨y.toNat, by omega⟩; have hm3 : m + 1 <= 4 := (by omega); have hwm : wrap64 (1 + (m : Int)) = 1 + (m : Int) := w64_dr _ (by omega); have HG8 := Lib.hid (gtrans HG3.out hg); have HS8 := Lib.hid hs; have HM8 := Lib.hid (HM3.out.src hpl hg); clear hg hs y0 y1))
     go_loopw [7] (fun x wr => ∃ m : Nat, m <= 4 /\ x = .int .i64 m /\ M38 wr w.heap.size g7 38 /\ w.grownBy wr (some p) /\ Src wr B tSc p) (fun x _ => (intOf x).toNat)
     case atStart => exact ⟨m + 1, hm3, by simp [Int.add_comm], HM8.out, HG8.out, HS8.out⟩
     case round =>
      obtain ⟨m, hm3, rfl, hm, hg, hs⟩ := hrel
      rename World => wq
      clear HM3 HG3 HS3 HM8 HG8 HS8
      have HM := Lib.hid hm
      have HG := Lib.hid hg
      have HS := Lib.hid hs
      clear hm hg hs
      by_cases hlt : 0 < m
      · have hll : (0 : Int) < (m : Int) := by omega
        have hmd : decide (0 < m) = true := decide_eq_true hlt
        go_wp2_with (first
         | (go_at_call 111; go_loud (refine (s_l01Next _ B p 8 HS.out (by omega) (by omega)).mono ?_; rintro e w9 ⟨y, rfl, y0, y1, hg, hs⟩; obtain ⟨k, rfl⟩ : ∃ k : Nat, y = k := ⟨y.toNat, by omega⟩; have hk37 : k < 8 := (by omega); have hwk : wrap64 (1 + (k : Int)) = 1 + (k : Int) := w64_dr _ (by omega); have hkc : 1 + (k : Int) < 38 := (by omega); have hkd : (1 + (k : Int)).toNat = 1 + k := (by omega); have HG9 := Lib.hid (gtrans HG.out hg); have HS9 := Lib.hid hs; have HM9 := Lib.hid (HM.out.src hpl hg); clear hg hs y0 y1))
         | (go_at_call 114; go_loud (refine (s_l01Number _ B p HS9.out).mono ?_; rintro e w10 ⟨z, rfl, hz, hg, hs⟩; have HG10 := Lib.hid (gtrans HG9.out hg); have HS10 := Lib.hid hs; have HM10 := Lib.hid (HM9.out.src hpl hg); obtain ⟨⟨u1, hu1⟩, hfr1, ho11, hg11⟩ := HM10.out.set_ (k := 1 + k) (by omega) hz; have HM11 := Lib.hid ho11; have HG11 := Lib.hid (gthen HG10.out hg11 (by rintro b ⟨⟩; exact hgw0)); have HS11 := Lib.hid (HS10.out.kept hg11 (by intro e; injection e with e; exact hgp e) (by rintro b ⟨⟩; have := HBp.out; omega)); clear hg hs hz ho11 hg11)))
        go_roundw
        case rel => exact ⟨m - 1, by omega, by rw [show ((m - 1 : Nat) : Int) = (m : Int) - 1 by omega], HM11.out, HG11.out, HS11.out⟩
        case measure => simp [intOf]; omega
      · have hm0 : m = 0 := by omega
        subst hm0
        go_wp2_with fail
        go_ret
        exact ⟨_, _, rfl, HM.out, HG.out, HS.out⟩
   · have hd1 : (x == 1) = false := by simp [hx1]
     clear hx hx1
     go_wp2_with (first
      | (go_at_call 125; go_loud (refine (s_l01List _ B p 37 HS1.out (by omega)).mono ?_; rintro e w2 ⟨x2, rfl, zs, ho2, lz, nz, hg2, hs2⟩; have HZ := Lib.hid ho2; have HLZ := Lib.hid (And.intro lz nz); have HG2 := Lib.hid (gtrans HG1.out hg2); have HS2 := Lib.hid hs2; have HO2 := Lib.hid (HO1.out.src hpl hg2); clear ho2 lz nz hg2 hs2))
      | (at_builtin; go_loud (refine wpList_appN T_int HO2.out HZ.out.1.cells (by rw [ints_len, ints_len, HLZ.out.1]; simp) HG2.out.size (fun u hu => by simp only [ints, List.mem_map] at hu; obtain ⟨z, -, rfl⟩ := hu; rfl) (by rfl) rfl (by rfl) (by rfl) ?_; intro v3 w3 hown3 hgr3; have HN3 := Lib.hid hown3; have HR3 := Lib.hid hgr3; clear hown3 hgr3)))
     go_ret
     obtain ⟨g, cap, rfl, hm⟩ := M38.of (us := f :: zs) ⟨(show Own w3 w.heap.size tI v3 (ints (f :: zs)) from HN3.out), fun z hz => by
      rcases List.mem_cons.1 hz with rfl | h
      · exact in64_n HF.out
      · exact in64_n (HLZ.out.2 z h)⟩ (by rw [List.length_cons, HLZ.out.1]) (fun z hz => by
      rcases List.mem_cons.1 hz with rfl | h
      · exact HF.out
      · exact HLZ.out.2 z h)
     exact ⟨_, _, rfl, hm, gthen HG2.out HR3.out.1 HO2.out.ge, HS2.out.kept HR3.out.1 (fun e => by have := HO2.out.ge _ e; omega) (fun b hb => Nat.le_trans (Nat.le_trans HS2.out.ge (Nat.le_of_lt hpl)) (HO2.out.ge b hb))⟩
set_option maxHeartbeats 8000000 in
theorem s_l07DrawAny (w : World) (B p : Nat) (h : Src w B tSc p) :
  Calls Tryz.prog 112 #[at0 p] w fun e w' => ∃ g d n m, e = .returned (.slice (some ⟨g, d, none⟩) n m) /\ DrM w' w.heap.size g d n m /\ w.grownBy w' (some p) /\ Src w' B tSc p := by
 have hpl := h.lt
 have HBp := Lib.hid h.ge
 have HD := Lib.hid (s_l07Draw w B p 1 h (by omega))
 clear h
 go_enter Tryz.func112, Tryz.ntmps112
 go_upto_region 3 with (first
  | (go_at_call 167; go_loud (refine HD.out.mono ?_; rintro e w1 ⟨g, cap, rfl, hm, hg, hs⟩; have HM1 := Lib.hid hm; have HG1 := Lib.hid hg; have HS1 := Lib.hid hs; have hgw : w.heap.size <= g := hm.ge; have hcap : 38 <= cap := hm.cap; clear hm hg hs))
  | (go_at_call 111; go_loud (refine (s_l01Next _ B p 24 HS1.out (by omega) (by omega)).mono ?_; rintro e w2 ⟨x, rfl, x0, x1, hg, hs⟩; have HG2 := Lib.hid (gtrans HG1.out hg); have HS2 := Lib.hid hs; have HM2 := Lib.hid (HM1.out.src hpl hg); clear hg hs x0 x1)))
 have hgp : g ≠ p := by omega
 clear HM1 HG1 HS1
 have HDM := Lib.hid HM2.out.dr
 by_cases hx : x = 0
 · have hd0 : (x == 0) = true := by simp [hx]
   clear hx
   go_wp2_with (go_at_call 111; go_loud (refine (s_l01Next _ B p 3 HS2.out (by omega) (by omega)).mono ?_; rintro e w3 ⟨y, rfl, y0, y1, hg, hs⟩; have HG3 := Lib.hid (gtrans HG2.out hg); have HD3 := Lib.hid (HDM.out.src hpl hg); obtain ⟨⟨u0, hu0⟩, hfr, ho5, hg5⟩ := HD3.out.set_ (k := 0) (by omega) (z := y) (by unfold In64; omega); have HD5 := Lib.hid ho5; have HG5 := Lib.hid (gthen HG3.out hg5 (by rintro b ⟨⟩; exact hgw)); have HS5 := Lib.hid (hs.kept hg5 (by intro e; injection e with e; exact hgp e) (by rintro b ⟨⟩; have := HBp.out; omega)); clear hg hs ho5 hg5 y0 y1))
   go_ret
   exact ⟨g, 0, 38, cap, rfl, HD5.out, HG5.out, HS5.out⟩
 · have hd0 : (x == 0) = false := by simp [hx]
   by_cases hx1 : x = 1
   · have hd1 : (x == 1) = true := by simp [hx1]
     clear hx hx1
     go_wp2_with (first
      | (go_at_call 111; go_loud (refine (s_l01Next _ B p 38 HS2.out (by omega) (by omega)).mono ?_; rintro e w3 ⟨y, rfl, y0, y1, hg, hs⟩; obtain ⟨k, rfl⟩ : ∃ k : Nat, y = k := ⟨y.toNat, by omega⟩; have hk38 : (k : Int) < 38 := (by omega); have HG3 := Lib.hid (gtrans HG2.out hg); have HS3 := Lib.hid hs; have HD3 := Lib.hid (HDM.out.src hpl hg); clear hg hs y0 y1))
      | (go_at_call 127; go_loud (refine (s_l01Spoil _ B p HS3.out).mono ?_; rintro e w4 ⟨z, rfl, hz, hg, hs⟩; have HG4 := Lib.hid (gtrans HG3.out hg); have HD4 := Lib.hid (HD3.out.src hpl hg); obtain ⟨⟨u0, hu0⟩, hfr, ho5, hg5⟩ := HD4.out.set_ (k := k) (by omega) (z := z) hz; rw [Nat.zero_add] at hu0 hfr ho5 hg5; have HD5 := Lib.hid ho5; have HG5 := Lib.hid (gthen HG4.out hg5 (by rintro b ⟨⟩; exact hgw)); have HS5 := Lib.hid (hs.kept hg5 (by intro e; injection e with e; exact hgp e) (by rintro b ⟨⟩; have := HBp.out; omega)); clear hg hs hz ho5 hg5)))
     go_ret
     exact ⟨g, 0, 38, cap, rfl, HD5.out, HG5.out, HS5.out⟩
   · have hd1 : (x == 1) = false := by simp [hx1]
     by_cases hx2 : x = 2
     · have hd2 : (x == 2) = true := by simp [hx2]
       have hsl := fun W => sl1 W g cap hcap
       have HD1 := Lib.hid HM2.out.dr1
       clear hx hx1 hx2
       go_wp2_with fail
       go_ret
       exact ⟨g, 1, 37, cap - 1, rfl, HD1.out, HG2.out, HS2.out⟩
     · have hd2 : (x == 2) = false := by simp [hx2]
       clear hx hx1 hx2
       go_wp2_with fail
       go_ret
       exact ⟨g, 0, 38, cap, rfl, HDM.out, HG2.out, HS2.out⟩
end Go.Proofs.YtofabikjjkapmaaGreat
