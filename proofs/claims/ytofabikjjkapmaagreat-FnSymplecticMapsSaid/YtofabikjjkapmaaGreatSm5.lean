import Derived.Test.YtofabikjjkapmaaGreatRows
import Derived.Test.YtofabikjjkapmaaGreatSm2
import Derived.Test.YtofabikjjkapmaaGreatSm1
import Derived.WalkLawsBesides
import Derived.BigGuardPart
import Derived.Test.YtofabikjjkapmaaGreatSm4
import Derived.Shelf.SlSortCmp.Whole1
import Derived.Shelf.SlSortCmp.NoneTotal
import Derived.Shelf.SlGeneric
import Derived.Ground.SlsfProg
import Derived.Shelf.GgSortFunc.Insertion
set_option linter.unusedVariables false
set_option linter.unusedSimpArgs false
namespace Go.Proofs.YtofabikjjkapmaaGreat
open Go.RowKit
set_option maxHeartbeats 400000 in
theorem i_inRange (n lo hi : Int) (w : World) :
  Calls Tryz.prog 128 #[.int .i64 n, .int .i64 lo, .int .i64 hi] w fun e w' => e = .returned (.bool (inR n lo hi)) /\ w = w' := by
 by_cases h1 : lo <= n
 · by_cases h2 : n <= hi
   · go_enter Tryz.func128, Tryz.ntmps128
     go_wp2
     go_ret
     exact ⟨ret_bool (by simp [inR, h1, h2]), rfl⟩
   · go_enter Tryz.func128, Tryz.ntmps128
     go_wp2
     go_ret
     exact ⟨ret_bool (by simp [inR, h1, h2]), rfl⟩
 · go_enter Tryz.func128, Tryz.ntmps128
   go_wp2
   go_ret
   exact ⟨ret_bool (by simp [inR]; omega), rfl⟩
set_option maxHeartbeats 400000 in
theorem s_l01In (n lo hi : Int) (w : World) :
  Calls Tryz.prog 231 #[.int .i64 n, .int .i64 lo, .int .i64 hi] w fun e w' => e = .returned (.bool (inR n lo hi)) /\ w = w' := by
 by_cases h1 : lo <= n
 · by_cases h2 : n <= hi
   · go_enter Tryz.func231, Tryz.ntmps231
     go_wp2
     go_ret
     exact ⟨ret_bool (by simp [inR, h1, h2]), rfl⟩
   · go_enter Tryz.func231, Tryz.ntmps231
     go_wp2
     go_ret
     exact ⟨ret_bool (by simp [inR, h1, h2]), rfl⟩
 · go_enter Tryz.func231, Tryz.ntmps231
   go_wp2
   go_ret
   exact ⟨ret_bool (by simp [inR]; omega), rfl⟩
set_option maxHeartbeats 400000 in
theorem i_IsNumber (n : Int) (w : World) : Calls Tryz.prog 158 #[.int .i64 n] w fun e w' => e = .returned (.bool (isNum n)) /\ w = w' := by
 go_enter Tryz.func158, Tryz.ntmps158
 go_wp2_with (go_at_call 128; refine (i_inRange _ _ _ _).mono ?_; rintro e w' ⟨rfl, rfl⟩)
 go_ret
 exact ⟨rfl, rfl⟩
set_option maxHeartbeats 400000 in
theorem s_IsNumber (n : Int) (w : World) : Calls Tryz.prog 187 #[.int .i64 n] w fun e w' => e = .returned (.bool (isNum n)) /\ w = w' := by
 go_enter Tryz.func187, Tryz.ntmps187
 go_wp2_with (go_at_call 231; refine (s_l01In _ _ _ _).mono ?_; rintro e w' ⟨rfl, rfl⟩)
 go_ret
 exact ⟨rfl, rfl⟩
set_option maxHeartbeats 400000 in
theorem i_areNumbers1 (n : Int) (w : World) : Calls Tryz.prog 157 #[.int .i64 n] w fun e w' => e = .returned (.bool (!isNum n)) /\ w = w' := by
 go_enter Tryz.func157, Tryz.ntmps157
 go_wp2_with (go_at_call 158; refine (i_IsNumber _ _).mono ?_; rintro e w' ⟨rfl, rfl⟩)
 go_ret
 exact ⟨rfl, rfl⟩
set_option maxHeartbeats 400000 in
theorem lib_IndexFuncI (w : World) (v : Value) (zs : List Int) (g : Nat) (p : Int -> Bool) (ha : Ints w v zs)
  (hcf : ∀ (args : Array Value) (w : World), Sem.run Tryz.prog (callFunc g args) w = .ok (.enter g args) w)
  (hp : ∀ z : Int, Calls Tryz.prog g #[.int .i64 z] w fun e w' => e = .returned (.bool (p z)) /\ w = w') :
  Calls Tryz.prog 201 #[v, .func (.func g) #[] #[]] w fun e w' => e = .returned (.int .i64 (idxF p zs)) /\ w = w' := by
 obtain ⟨A, c, rfl, h1, h2, h3⟩ := ha.open_
 clear ha
 have H3 := Lib.hid h3
 have HP := Lib.hid hp
 clear h3 hp
 go_enter Tryz.func201, Tryz.ntmps201
 go_wp2_with fail
 go_loop [8] (fun i => ∃ k : Nat, k <= zs.length /\ i = .int .i64 k /\ Hid (∀ i y, i < k -> zs[i]? = some y -> p y = false)) (fun i => zs.length - (intOf i).toNat)
 case atStart => exact ⟨0, Nat.zero_le _, rfl, fun i y h => by omega⟩
 case round =>
  obtain ⟨k, hk, rfl, hI⟩ := hrel
  by_cases hlt : k < zs.length
  · obtain ⟨ad, z, rfl, hz, hz2, hc⟩ := H3.out k hlt
    have HZ := Lib.hid hz
    clear hz hz2
    go_wp2_with fail
    refine (HP.out z).mono ?_
    rintro e w' ⟨rfl, rfl⟩
    go_wp2_with fail
    · have hpz : p z = true := by assumption
      go_ret
      exact ⟨ret_int (idxF_hit hI.out HZ.out hpz).symm, rfl⟩
    · have hpz : p z = false := by assumption
      go_round
      case rel =>
       refine ⟨k + 1, by omega, by go_num, fun i y hi hy => ?_⟩
       by_cases e : i = k
       · subst e
         rw [HZ.out] at hy
         cases hy
         exact hpz
       · exact hI.out i y (by omega) hy
      case measure => simp [intOf]; omega
  · have : k = zs.length := by omega
    subst this
    go_wp2_with fail
    go_ret
    exact ⟨ret_int (idxF_miss hI.out).symm, rfl⟩
set_option maxHeartbeats 400000 in
theorem lib_ContainsFuncI (w : World) (v : Value) (zs : List Int) (g : Nat) (p : Int -> Bool) (ha : Ints w v zs)
  (hcf : ∀ (args : Array Value) (w : World), Sem.run Tryz.prog (callFunc g args) w = .ok (.enter g args) w)
  (hp : ∀ z : Int, Calls Tryz.prog g #[.int .i64 z] w fun e w' => e = .returned (.bool (p z)) /\ w = w') :
  Calls Tryz.prog 156 #[v, .func (.func g) #[] #[]] w fun e w' => e = .returned (.bool (zs.any p)) /\ w = w' := by
 have HA := Lib.hid ha
 have HP := Lib.hid hp
 clear ha hp
 go_enter Tryz.func156, Tryz.ntmps156
 go_wp2_with (go_at_call 201; refine (lib_IndexFuncI _ _ _ _ _ HA.out hcf HP.out).mono ?_; rintro e w' ⟨rfl, rfl⟩)
 go_ret
 exact ⟨ret_bool (idxF_nonneg p zs), rfl⟩
set_option maxHeartbeats 400000 in
theorem i_areNumbers (w : World) (v : Value) (zs : List Int) (ha : Ints w v zs) : Calls Tryz.prog 90 #[v] w fun e w' => e = .returned (.bool (nums zs)) /\ w = w' := by
 have HA := Lib.hid ha
 clear ha
 go_enter Tryz.func90, Tryz.ntmps90
 go_wp2_with (go_at_call 156; refine (lib_ContainsFuncI _ _ _ _ (fun z => !isNum z) HA.out (fun _ _ => by kernel_rfl) (fun z => i_areNumbers1 z _)).mono ?_; rintro e w' ⟨rfl, rfl⟩)
 go_ret
 exact ⟨ret_bool (by rw [any_not_nums, Bool.not_not]), rfl⟩
set_option maxHeartbeats 400000 in
theorem s_l01Numbers (w : World) (v : Value) (zs : List Int) (ha : Ints w v zs) : Calls Tryz.prog 133 #[v] w fun e w' => e = .returned (.bool (nums zs)) /\ w = w' := by
 obtain ⟨A, c, rfl, h1, h2, h3⟩ := ha.open_
 clear ha
 have H3 := Lib.hid h3
 clear h3
 go_enter Tryz.func133, Tryz.ntmps133
 go_wp2_with fail
 go_loop [3] (fun i => ∃ k : Nat, k <= zs.length /\ i = .int .i64 k /\ Hid (∀ i y, i < k -> zs[i]? = some y -> isNum y = true)) (fun i => zs.length - (intOf i).toNat)
 case atStart => exact ⟨0, Nat.zero_le _, rfl, fun i y h => by omega⟩
 case round =>
  obtain ⟨k, hk, rfl, hI⟩ := hrel
  by_cases hlt : k < zs.length
  · obtain ⟨ad, z, rfl, hz, hz2, hc⟩ := H3.out k hlt
    have HZ := Lib.hid hz
    clear hz hz2
    go_wp2_with (go_at_call 187; refine (s_IsNumber _ _).mono ?_; rintro e w' ⟨rfl, rfl⟩)
    · have hpz : isNum z = false := by simpa using (by assumption : (!isNum z) = true)
      go_ret
      exact ⟨ret_bool (nums_false HZ.out hpz).symm, rfl⟩
    · have hpz : isNum z = true := by simpa using (by assumption : (!isNum z) = false)
      go_round
      case rel =>
       refine ⟨k + 1, by omega, by go_num, fun i y hi hy => ?_⟩
       by_cases e : i = k
       · subst e
         rw [HZ.out] at hy
         cases hy
         exact hpz
       · exact hI.out i y (by omega) hy
      case measure => simp [intOf]; omega
  · have : k = zs.length := by omega
    subst this
    go_wp2_with fail
    go_ret
    exact ⟨ret_bool (nums_all hI.out).symm, rfl⟩
set_option maxHeartbeats 400000 in
theorem lib_lengthI (w : World) (v : Value) (zs : List Int) (ha : Ints w v zs) : Calls Tryz.prog 59 #[v] w fun e w' => e = .returned (.int .i64 zs.length) /\ w = w' := by
 obtain ⟨A, c, rfl, h1, h2, h3⟩ := ha.open_
 clear ha h3
 go_enter Tryz.func59, Tryz.ntmps59
 go_wp2
 go_ret
 exact ⟨rfl, rfl⟩
end Go.Proofs.YtofabikjjkapmaaGreat
set_option maxRecDepth 100000
namespace Go.Proofs.YtofabikjjkapmaaGreat
open Go.RowKit
abbrev Mono := Int × List Int
def MonoArg (w : World) (v : Value) (m : Mono) : Prop := ∃ u, v = .agg #[.int .i64 m.1, u] /\ In64 m.1 /\ Ints w u m.2
def Monos (w : World) (v : Value) (ms : List Mono) : Prop :=
 ∃ A c, v = .slice A ms.length c /\ ms.length <= c /\ c <= maxLen /\ ∀ (k : Nat) (m : Mono), ms[k]? = some m -> ∃ b o u, A = some ⟨b, o, none⟩ /\ In64 m.1 /\ Ints w u m.2 /\ w.cell? ⟨b, o + k * 2, none⟩ = some (.int .i64 m.1) /\ w.cell? ⟨b, o + k * 2 + 1, none⟩ = some u
def MRows (w : World) (v : Value) (pss : List (List Mono)) : Prop :=
 ∃ vs, Cells w v vs /\ vs.length = pss.length /\ ∀ (k : Nat) (u : Value) (ms : List Mono), vs[k]? = some u -> pss[k]? = some ms -> Monos w u ms
theorem quiet_lessF {w : World} {n : Nat} {v v' : Value} {a b : List Int} (h : Ints w v a) (h' : Ints w v' b) :
  Calls Tryz.prog 251 #[v, v'] (w.drewN n) fun e w'' => e = .returned (.bool (lessL a b)) /\ ∃ m, w'' = w.drewN m :=
 (s_l01Less _ _ _ a b (h.drewN n) (h'.drewN n)).mono fun _ _ ⟨he, m, hm⟩ => ⟨he, n + m, by rw [hm, World.drewN_drewN]⟩
section
variable {w : World} {B : Nat} {vs us : List Value} {xss yss : List (List Int)}
theorem RR.append (h : RR w B vs xss) (h' : RR w B us yss) : RR w B (vs ++ us) (xss ++ yss) := by
 refine ⟨by simp [h.1, h'.1], fun k u zs hu hz => ?_⟩
 by_cases hlt : k < vs.length
 · rw [List.getElem?_append_left hlt] at hu
   rw [List.getElem?_append_left (by rw [<- h.1]; exact hlt)] at hz
   exact h.2 k u zs hu hz
 · rw [List.getElem?_append_right (by omega)] at hu
   rw [List.getElem?_append_right (by rw [<- h.1]; omega), <- h.1] at hz
   exact h'.2 _ u zs hu hz
theorem RR.take (h : RR w B vs xss) (k : Nat) : RR w B (vs.take k) (xss.take k) := by
 refine ⟨by simp [h.1], fun j u zs hu hz => ?_⟩
 rw [List.getElem?_take] at hu hz
 split at hu
 · rw [if_pos (by assumption)] at hz
   exact h.2 j u zs hu hz
 · cases hu
theorem RR.drop (h : RR w B vs xss) (k : Nat) : RR w B (vs.drop k) (xss.drop k) := by
 refine ⟨by simp [h.1], fun j u zs hu hz => ?_⟩
 rw [List.getElem?_drop] at hu hz
 exact h.2 _ u zs hu hz
theorem RR.one {u : Value} {zs : List Int} (h : OwnInts w B tI u zs) : RR w B [u] [zs] := (RR.nil w B).snoc h
theorem RR.insert {u : Value} {zs : List Int} (h : RR w B vs xss) (hu : OwnInts w B tI u zs) (k : Nat) : RR w B ([] ++ vs.take k ++ ([u] ++ vs.drop k)) (xss.take k ++ zs :: xss.drop k) :=
 (h.take k).append ((RR.one hu).append (h.drop k))
end
theorem cells_from {w : World} {A : Option Addr} {n c : Nat} {vs : List Value} (h : Cells w (.slice A n c) vs) (hn : n = vs.length) (k : Nat) (hk : k <= vs.length) :
  ∃ y, (∀ W, (Instr.slice 35 (.slice A n c) (some (.int .i64 k)) none none).run Tryz.prog W = .ok y W) /\ Cells w y (vs.drop k) := by
 obtain ⟨X, h1, h2⟩ := sliced_cells h (k := k) (m := vs.length) hk (Nat.le_refl _)
 rw [List.take_length] at h2
 exact ⟨_, fun W => by rw [sl_from Tryz.underlying35 sizeL W A n c k k rfl (by omega), hn, h1], h2⟩
theorem cells_to {w : World} {A : Option Addr} {n c : Nat} {vs : List Value} (h : Cells w (.slice A n c) vs) (hc : n <= c) (hn : n = vs.length) (k : Nat) (hk : k <= vs.length) :
  ∃ y, (∀ W, (Instr.slice 35 (.slice A n c) none (some (.int .i64 k)) none).run Tryz.prog W = .ok y W) /\ Cells w y (vs.take k) := by
 obtain ⟨X, h1, h2⟩ := sliced_cells h (k := 0) (m := k) (Nat.zero_le _) hk
 simp only [List.drop_zero] at h2
 exact ⟨_, fun W => by rw [sl_to Tryz.underlying35 sizeL W A n c k k rfl (by omega), h1], h2⟩
theorem bdA (w : World) (n : Nat) (o : Obj) : Below w.heap.size w ((w.drewN n).alloc o) := (below_drewN (Below.refl _ _) n).alloc (Nat.le_refl _) _
set_option maxHeartbeats 8000000 in
theorem s_l03Canon : ∀ (f : Nat) (w : World) (v : Value) (t r : List Nat), Ints w v (up t) -> canO f t = some r -> t.length <= 1000 -> (∀ l ∈ t, l <= 1000000) ->
  Calls Tryz.prog 224 #[v] w fun e w' => ∃ x, e = .returned x /\ OwnInts w' w.heap.size tI x (up r) /\ Below w.heap.size w w' := by
 intro f
 induction f with
 | zero => intro w v t r _ h; cases h
 | succ f ih =>
  intro w v t r ha hcan hn hl
  obtain ⟨bs, cs, hb, hm, hr⟩ := canO_parts hcan
  have IH := Lib.hid ih
  have HA := Lib.hid ha
  have HB := Lib.hid hb
  have HM := Lib.hid hm
  have HR := Lib.hid hr
  have HL := Lib.hid hl
  have HLE := Lib.hid (brO_lens hb hn)
  have HLM := Lib.hid (brO_mem hb hl)
  have HRL := Lib.hid (show r.length <= 1000 by rw [canO_len hcan]; exact hn)
  have HCL := Lib.hid (mapO_len hm)
  have hbl : bs.length <= 1000 := HLE.out.1
  obtain ⟨A, c, rfl, -, -, -⟩ := ha.open_
  rw [up_len] at HA ⊢
  clear ih ha hb hm hr hl hcan
  go_enter Tryz.func224, Tryz.ntmps224
  go_wp2_with (go_at_call 179; refine (s_l03Parts _ _ t bs HA.out HB.out hn HL.out).mono ?_; rintro e w1 ⟨r1, rfl, ho1, hb1⟩; have HP := Lib.hid ho1.rows; have HB1 := Lib.hid hb1; obtain ⟨A1, c1, hr1, -, -, hrow1⟩ := ho1.rows.open_; rw [List.length_map] at hr1 hrow1; subst hr1; have HROW := Lib.hid hrow1; have OL := Lib.hid (show Own (w1.alloc (.cells #[] tL)) w1.heap.size tL (.slice (some ⟨w1.heap.size, 0, none⟩) 0 0) [] from own_lit w1 tL [] (by simp [maxLen])); clear ho1 hb1 hrow1)
  go_loopw [4, 5, 6, 7, 8] (fun sv i s6 s7 s8 wr => ∃ (j : Nat) (vs : List Value), j <= bs.length /\ i = .int .i64 j /\ Own wr w1.heap.size tL sv vs /\ RR wr w1.heap.size vs ((srtF [] (cs.take j)).map up) /\ Below w1.heap.size w1 wr) (fun _ i _ _ _ _ => bs.length - (intOf i).toNat)
  case atStart => exact ⟨0, [], Nat.zero_le _, rfl, OL.out, RR.nil _ _, below1 _ _⟩
  case round =>
   obtain ⟨j, vs, hj, rfl, hown, hrr, hbw⟩ := hrel
   clear OL
   have HO := Lib.hid hown
   have HRR := Lib.hid hrr
   have HBW := Lib.hid hbw
   obtain ⟨A2, c2, rfl, k1, k2⟩ := hown.cells.open_
   have hvl : vs.length = j := by rw [hrr.1, List.length_map, len_srtF, List.length_take, HCL.out]; simp; omega
   have HVL := Lib.hid hvl
   have HSL := Lib.hid (show (srtF [] (cs.take j)).length = j by rw [len_srtF, List.length_take, HCL.out]; simp; omega)
   rw [hvl] at HO k1 ⊢
   clear hown hrr hbw hvl
   by_cases hlt : j < bs.length
   · obtain ⟨ad, u, zs, rfl, hz, hu, hc0⟩ := HROW.out j hlt
     have hc : wr.cell? (ad.add j) = some u := by
      rw [HBW.out.cell (by rw [block_add]; have := World.block_lt_of_cell? w1 _ hc0; rwa [block_add] at this)]; exact hc0
     have hbj : bs[j]? = some (bs[j]'hlt) := List.getElem?_eq_getElem _
     obtain ⟨cj, hcj, hcan⟩ := mapO_get HM.out j _ hbj
     have hzb : zs = up (bs[j]'hlt) := by rw [List.getElem?_map, hbj] at hz; injection hz with hz; exact hz.symm
     subst hzb
     have HU := Lib.hid (hu.below HBW.out)
     have HCAN := Lib.hid hcan
     have HSN := Lib.hid (show srtF [] (cs.take (j + 1)) = insD cj (srtF [] (cs.take j)) by rw [List.take_add_one, hcj]; exact srtF_snoc _ _ _)
     have HBJ1 := Lib.hid (HLE.out.2 _ (List.mem_of_getElem? hbj))
     have HBJ2 := Lib.hid (HLM.out _ (List.mem_of_getElem? hbj))
     have hji : (j : Int) < (bs.length : Int) := by omega
     generalize hss : srtF [] (cs.take j) = ss at HRR HSN HSL
     generalize bs[j]'hlt = bj at HU HCAN HBJ1 HBJ2
     clear hz hu hc0 hbj hcj hcan hss
     go_wp2_with (go_at_call 224; refine (IH.out _ _ _ _ HU.out HCAN.out HBJ1.out HBJ2.out).mono ?_; rintro e w2 ⟨r2, rfl, ho2, hb2⟩; obtain ⟨A5, c5, he5, -, -, -⟩ := ho2.ints.open_; rw [up_len] at he5; subst he5; have HO2 := Lib.hid ho2; have HB2 := Lib.hid hb2; clear ho2 hb2)
     have HIN := Lib.hid (insD_at cj ss)
     have HST := Lib.hid (insAt_step cj ss)
     have HAL := Lib.hid (show insAt cj ss <= j from by have := insAt_le cj ss; rw [HSL.out] at this; exact this)
     have hj1 : j <= 1000 := by omega
     have HOW2 := Lib.hid (HO.out.below HB2.out)
     have HONE := Lib.hid HRR.out.oneCell
     generalize insAt cj ss = a at HIN HST HAL
     go_loopw [7] (fun i wi => ∃ (k n : Nat), k <= a /\ i = .int .i64 k /\ wi = w2.drewN n) (fun i _ => a - (intOf i).toNat)
     case atStart => exact ⟨0, 0, Nat.zero_le _, rfl, rfl⟩
     case round =>
      obtain ⟨k, n, hk, rfl, rfl⟩ := hrel
      have hrow : k < j -> ∃ ad' u' q, A2 = some ad' /\ w2.cell? (ad'.add k) = some u' /\ Ints w2 u' (up q) /\ ss[k]? = some q := by
       intro hkj
       have hu' : vs[k]? = some (vs[k]'(by rw [HVL.out]; exact hkj)) := List.getElem?_eq_getElem _
       have hq : ss[k]? = some (ss[k]'(by rw [HSL.out]; exact hkj)) := List.getElem?_eq_getElem _
       have hi := HRR.out.2 k _ _ hu' (by rw [List.getElem?_map, hq]; rfl)
       obtain ⟨ad', n', c', he, hc'⟩ := HOW2.out.cells.at_ hu'
       simp only [Value.slice.injEq] at he
       exact ⟨ad', _, _, he.1, hc', (hi.below HB2.out).ints, hq⟩
      by_cases hlt2 : k < a
      · obtain ⟨ad', u', q, rfl, hc', hq1, hq2⟩ := hrow (by have := HAL.out; omega)
        have hless : ltN q cj = false := by
         rcases HST.out k q (by omega) hq2 with ⟨_, h⟩ | ⟨h, _⟩
         · omega
         · exact h
        have HQ := Lib.hid hq1
        have hkj : (k : Int) < (j : Int) := by have := HAL.out; omega
        clear hq1 hq2 hrow
        go_wp2_with (go_at_call 251; refine (quiet_lessF HQ.out HO2.out.ints).mono ?_; rintro e w3 ⟨rfl, n3, rfl⟩; rw [lessL_up, hless])
        go_roundw
        case rel => exact ⟨k + 1, n3, by omega, by go_num, rfl⟩
        case measure => simp [intOf]; omega
      · have hka : a = k := by omega
        subst hka
        have haj := HAL.out
        obtain ⟨y1, hy1, hcy1⟩ := cells_from HOW2.out.cells HVL.out.symm a (by rw [HVL.out]; exact haj)
        obtain ⟨y2, hy2, hcy2⟩ := cells_to HOW2.out.cells k1 HVL.out.symm a (by rw [HVL.out]; exact haj)
        have HCY1 := Lib.hid hcy1
        have HCY2 := Lib.hid hcy2
        have hcase : (∃ ad' u' q, A2 = some ad' /\ w2.cell? (ad'.add a) = some u' /\ Ints w2 u' (up q) /\ ltN q cj = true /\ (a : Int) < (j : Int)) \/ j = a := by
         by_cases h : a < j
         · obtain ⟨ad', u', q, h1, h2, h3, h4⟩ := hrow h
           refine .inl ⟨ad', u', q, h1, h2, h3, ?_, by omega⟩
           rcases HST.out a q (Nat.le_refl _) h4 with ⟨h, _⟩ | ⟨_, h⟩
           · exact h
           · omega
         · exact .inr (by omega)
        clear hcy1 hcy2 hrow hlt2 hk
        rcases hcase with ⟨ad', u', q, rfl, hc', hq1, hless, hkj⟩ | rfl
        · have HQ := Lib.hid hq1
          clear hq1
          go_wp2_with (first
           | (go_at_call 251; refine (quiet_lessF HQ.out HO2.out.ints).mono ?_; rintro e w3 ⟨rfl, n3, rfl⟩; rw [lessL_up, hless])
           | (at_builtin; refine wpList_appN T_row (B := w2.heap.size) (v := .slice (some ⟨w2.heap.size, 0, none⟩) 1 1) (vs := [.slice A5 cj.length c5]) (own_lit _ tL [.slice A5 cj.length c5] (by simp [maxLen])) (HCY1.out.below (bdA _ _ _)) (by have h := HVL.out; simp only [List.length_drop, List.length_cons, List.length_nil, h]; omega) (by simp) (fun u hu => HONE.out u (List.mem_of_mem_drop hu)) (by rfl) rfl (by rfl) (by rfl) ?_; intro v1 w3 hown1 hgr1; have HB3 := Lib.hid (hgr1.below (bdA _ _ _) (bdA _ _ _).size (fun b hb => by simp [Value.ownBlock] at hb; omega)); clear hgr1)
           | (at_builtin; refine wpList_appN T_row (B := w3.heap.size) (v := .slice (some ⟨w3.heap.size, 0, none⟩) 0 0) (vs := []) (own_lit w3 tL [] (by simp [maxLen])) ((HCY2.out.below HB3.out).below (below1 w3 _)) (by have h := HVL.out; simp only [List.length_take, List.length_nil, h]; omega) (by simp) (fun u hu => HONE.out u (List.mem_of_mem_take hu)) (by rfl) rfl (by rfl) (by rfl) ?_; intro v2 w4 hown2 hgr2; have HB4 := Lib.hid (hgr2.below (below1 w3 _) (below1 w3 _).size (fun b hb => by simp [Value.ownBlock] at hb; omega)); clear hgr2)
           | (at_builtin; refine wpList_appN T_row (B := w3.heap.size) (v := v2) hown2 (hown1.below HB4.out).cells (by have h := HVL.out; simp only [List.length_append, List.length_take, List.length_drop, List.length_cons, List.length_nil, h]; omega) HB4.out.size (fun u hu => by rcases List.mem_append.1 hu with hu | hu; (simp at hu; subst hu; exact (RR.one HO2.out).oneCell _ (by simp)); exact HONE.out u (List.mem_of_mem_drop hu)) (by rfl) rfl (by rfl) (by rfl) ?_; intro v3 w5 hown3 hgr3; have HB5 := Lib.hid (hgr3.below HB4.out HB4.out.size hown2.ge); clear hgr3))
          go_roundw
          case rel =>
           have b25 := HB3.out.trans (HB5.out.mono HB3.out.size)
           have bw5 := HB2.out.trans (b25.mono HB2.out.size)
           refine ⟨j + 1, _, by omega, by go_num, hown3.mono (Nat.le_trans HBW.out.size (Nat.le_trans HB2.out.size HB3.out.size)), ?_, HBW.out.trans (bw5.mono HBW.out.size)⟩
           rw [HSN.out, HIN.out, List.map_append, List.map_cons, List.map_take, List.map_drop]
           exact (HRR.out.below bw5).insert ((HO2.out.below b25).mono HBW.out.size) _
          case measure => simp [intOf]; omega
        · clear hc
          go_wp2_with (first
           | (at_builtin; refine wpList_appN T_row (B := w2.heap.size) (v := .slice (some ⟨w2.heap.size, 0, none⟩) 1 1) (vs := [.slice A5 cj.length c5]) (own_lit _ tL [.slice A5 cj.length c5] (by simp [maxLen])) (HCY1.out.below (bdA _ _ _)) (by have h := HVL.out; simp only [List.length_drop, List.length_cons, List.length_nil, h]; omega) (by simp) (fun u hu => HONE.out u (List.mem_of_mem_drop hu)) (by rfl) rfl (by rfl) (by rfl) ?_; intro v1 w3 hown1 hgr1; have HB3 := Lib.hid (hgr1.below (bdA _ _ _) (bdA _ _ _).size (fun b hb => by simp [Value.ownBlock] at hb; omega)); clear hgr1)
           | (at_builtin; refine wpList_appN T_row (B := w3.heap.size) (v := .slice (some ⟨w3.heap.size, 0, none⟩) 0 0) (vs := []) (own_lit w3 tL [] (by simp [maxLen])) ((HCY2.out.below HB3.out).below (below1 w3 _)) (by have h := HVL.out; simp only [List.length_take, List.length_nil, h]; omega) (by simp) (fun u hu => HONE.out u (List.mem_of_mem_take hu)) (by rfl) rfl (by rfl) (by rfl) ?_; intro v2 w4 hown2 hgr2; have HB4 := Lib.hid (hgr2.below (below1 w3 _) (below1 w3 _).size (fun b hb => by simp [Value.ownBlock] at hb; omega)); clear hgr2)
           | (at_builtin; refine wpList_appN T_row (B := w3.heap.size) (v := v2) hown2 (hown1.below HB4.out).cells (by have h := HVL.out; simp only [List.length_append, List.length_take, List.length_drop, List.length_cons, List.length_nil, h]; omega) HB4.out.size (fun u hu => by rcases List.mem_append.1 hu with hu | hu; (simp at hu; subst hu; exact (RR.one HO2.out).oneCell _ (by simp)); exact HONE.out u (List.mem_of_mem_drop hu)) (by rfl) rfl (by rfl) (by rfl) ?_; intro v3 w5 hown3 hgr3; have HB5 := Lib.hid (hgr3.below HB4.out HB4.out.size hown2.ge); clear hgr3))
          go_roundw
          case rel =>
           have b25 := HB3.out.trans (HB5.out.mono HB3.out.size)
           have bw5 := HB2.out.trans (b25.mono HB2.out.size)
           refine ⟨j + 1, _, by omega, by go_num, hown3.mono (Nat.le_trans HBW.out.size (Nat.le_trans HB2.out.size HB3.out.size)), ?_, HBW.out.trans (bw5.mono HBW.out.size)⟩
           rw [HSN.out, HIN.out, List.map_append, List.map_cons, List.map_take, List.map_drop]
           exact (HRR.out.below bw5).insert ((HO2.out.below b25).mono HBW.out.size) _
          case measure => simp [intOf]; omega
   · have : j = bs.length := by omega
     subst this
     have HE := Lib.hid (show rootN (srtF [] (cs.take bs.length)) = r by rw [<- HCL.out, List.take_length]; exact HR.out.symm)
     have HSB := Lib.hid (show ∀ q ∈ srtF [] (cs.take bs.length), q.length <= 1000 /\ ∀ l ∈ q, l < 1000 from fun q hq => by
      rcases mem_srtF hq with h | h
      · simp at h
      · obtain ⟨x, hx, hxq⟩ := mapO_all HM.out q (List.mem_of_mem_take h)
        have h1 := canO_len hxq
        have h2 := HLE.out.2 x hx
        exact ⟨by omega, fun l hl => by have := canO_lt hxq l hl; omega⟩)
     generalize hss : srtF [] (cs.take bs.length) = ss at HRR HSL HE HSB
     have HBT := Lib.hid (show ∀ j, brLen (ss.take j) <= 1000 from fun j => by
      have h1 := congrArg brLen (List.take_append_drop j ss)
      have h2 := HRL.out
      rw [<- HE.out, rootN, List.length_cons, bumps_len] at h2
      rw [brLen_append] at h1
      omega)
     have OL2 := Lib.hid (show OwnInts (wr.alloc (.cells #[.int .i64 0] tI)) wr.heap.size tI (.slice (some ⟨wr.heap.size, 0, none⟩) 1 1) [0] from ⟨own_lit wr tI [.int .i64 0] (by simp [maxLen]), fun z hz => by simp at hz; subst hz; unfold In64; omega⟩)
     clear hss
     go_wp2_with fail
     obtain ⟨w3, rfl⟩ : ∃ w3 : World, w3 = wr := ⟨_, rfl⟩
     go_loopw [9, 10, 11] (fun o i s11 wq => ∃ j : Nat, j <= bs.length /\ i = .int .i64 j /\ OwnInts wq w3.heap.size tI o (up (0 :: bumps (ss.take j))) /\ Below w3.heap.size w3 wq) (fun _ i _ _ => bs.length - (intOf i).toNat)
     case atStart => exact ⟨0, Nat.zero_le _, rfl, by simpa [up, bumps] using OL2.out, below1 _ _⟩
     case round =>
      obtain ⟨j, hj, rfl, ho, hb⟩ := hrel
      clear OL2
      have HOI := Lib.hid ho
      have HBQ := Lib.hid hb
      clear ho hb
      by_cases hlt : j < bs.length
      · have hu' : vs[j]? = some (vs[j]'(by rw [HVL.out]; exact hlt)) := List.getElem?_eq_getElem _
        have hq : ss[j]? = some (ss[j]'(by rw [HSL.out]; exact hlt)) := List.getElem?_eq_getElem _
        have hi := HRR.out.2 j _ _ hu' (by rw [List.getElem?_map, hq]; rfl)
        obtain ⟨ad', n', c', he, hc'⟩ := HO.out.cells.at_ hu'
        simp only [Value.slice.injEq] at he
        obtain ⟨rfl, -, -⟩ := he
        obtain ⟨Aq, cq, heq, l1, l2, hcq⟩ := hi.ints.open_
        have HQB := Lib.hid (HSB.out _ (List.mem_of_getElem? hq))
        have HSN := Lib.hid (show ss.take (j + 1) = ss.take j ++ [ss[j]'(by rw [HSL.out]; exact hlt)] by rw [List.take_add_one, hq]; rfl)
        rw [heq] at hc'
        generalize ss[j]'(by rw [HSL.out]; exact hlt) = q at HQB HSN hc' hcq l1
        rw [up_len] at hc' hcq l1
        have HCU := Lib.hid (show ∀ W : World, Below w3.heap.size w3 W -> W.cell? (ad'.add j) = some (.slice Aq q.length cq) from fun W hW => by rw [hW.cell (by rw [block_add]; have := World.block_lt_of_cell? w3 _ hc'; rwa [block_add] at this)]; exact hc')
        have HCQ := Lib.hid hcq
        have hji : (j : Int) < (bs.length : Int) := by omega
        clear hu' hq hi hc' heq hcq
        go_wp2_with fail
        obtain ⟨wo, rfl⟩ : ∃ wo : World, wo = wr := ⟨_, rfl⟩
        go_loopw [9, 11] (fun o i wi => ∃ k : Nat, k <= q.length /\ i = .int .i64 k /\ OwnInts wi w3.heap.size tI o (up (0 :: bumps (ss.take j) ++ bump (q.take k))) /\ Below w3.heap.size w3 wi) (fun _ i _ => q.length - (intOf i).toNat)
        case atStart => exact ⟨0, Nat.zero_le _, rfl, by simpa [bump] using HOI.out, HBQ.out⟩
        case round =>
         obtain ⟨k, hk, rfl, ho, hb⟩ := hrel
         clear HOI HBQ
         have HOI := Lib.hid ho
         have HBQ := Lib.hid hb
         have hcu := HCU.out _ hb
         clear ho hb
         by_cases hlt2 : k < q.length
         · obtain ⟨aq, z, rfl, hz, -, hcz0⟩ := HCQ.out k hlt2
           obtain ⟨l, hlk, hzl⟩ := up_getD hz
           have hcz : wr.cell? (aq.add k) = some (.int .i64 z) := by
            rw [HBQ.out.cell (by rw [block_add]; have := World.block_lt_of_cell? w3 _ hcz0; rwa [block_add] at this)]; exact hcz0
           have hl1 := HQB.out.2 l (List.mem_of_getElem? hlk)
           have hwz : IntKind.i64.wrap (z + 1) = z + 1 := IntWalk.i64_in _ (by omega)
           have hz64 : In64 (z + 1) := by unfold In64; omega
           have HTK := Lib.hid (show bump (q.take (k + 1)) = bump (q.take k) ++ [l + 1] by rw [List.take_add_one, hlk, bump_append]; rfl)
           have HZL := Lib.hid hzl
           have HLN := Lib.hid (show (up (0 :: bumps (ss.take j) ++ bump (q.take k))).length <= 1000000 by
            have h1 := HBT.out j
            have h2 := HQB.out.1
            rw [up_len, List.length_append, List.length_cons, bumps_len, bump_len, List.length_take]
            omega)
           have hki : (k : Int) < (q.length : Int) := by omega
           clear hz hlk hcz0 hzl hl1
           go_wp2_with (at_builtin; refine wpList_app1 T_int HOI.out.1 (by rw [ints_len]; have := HLN.out; omega) HBQ.out.size (by rfl) rfl (by rfl) (by rfl) (by rfl) ?_; intro v1 w5 hown1 hgr1; have HN := Lib.hid hown1; have HB5 := Lib.hid (hgr1.below HBQ.out HBQ.out.size HOI.out.1.ge); clear hown1 hgr1)
           go_roundw
           case rel =>
            refine ⟨k + 1, by omega, by go_num, ?_, HB5.out⟩
            have e : up (0 :: bumps (ss.take j) ++ bump (q.take (k + 1))) = up (0 :: bumps (ss.take j) ++ bump (q.take k)) ++ [z + 1] := by
             rw [HTK.out, <- List.append_assoc, up_append, HZL.out]; rfl
            rw [e]
            exact ⟨by simpa [ints] using HN.out, fun y hy => by rcases List.mem_append.1 hy with hy | hy; exact HOI.out.2 y hy; simp at hy; subst hy; exact hz64⟩
           case measure => simp [intOf]; omega
         · have : k = q.length := by omega
           subst this
           have e : up (0 :: bumps (ss.take j) ++ bump (q.take q.length)) = up (0 :: bumps (ss.take (j + 1))) := by
            rw [List.take_length, HSN.out, bumps_append]; simp [bumps]
           have HOI2 := Lib.hid (e ▸ HOI.out)
           clear HOI e
           go_wp2_with fail
           go_roundw
           case rel => exact ⟨j + 1, by omega, by go_num, HOI2.out, HBQ.out⟩
           case measure => simp [intOf]; omega
      · have : j = bs.length := by omega
        subst this
        go_wp2_with fail
        go_ret
        have hfin := HOI.out
        rw [<- HSL.out, List.take_length] at hfin
        have hr : up (0 :: bumps ss) = up r := by rw [<- HE.out]; rfl
        rw [hr] at hfin
        have b13 := HBW.out.trans (HBQ.out.mono HBW.out.size)
        exact ⟨_, rfl, hfin.mono (Nat.le_trans HB1.out.size HBW.out.size), HB1.out.trans (b13.mono HB1.out.size)⟩
set_option maxHeartbeats 4000000 in
theorem i_rootOn (w : World) (v : Value) (ss : List (List Nat)) (ha : Rows w v (ss.map up)) (hsb : ∀ q ∈ ss, q.length <= 1000 /\ ∀ l ∈ q, l < 1000000) (hbt : brLen ss <= 1000) (hn : ss.length <= 1000) :
  Calls Tryz.prog 212 #[v] w fun e w' => ∃ x, e = .returned x /\ OwnInts w' w.heap.size tI x (up (rootN ss)) /\ Below w.heap.size w w' := by
 obtain ⟨A, c, rfl, l1, l2, h3⟩ := ha.open_
 rw [List.length_map] at h3 l1 ⊢
 have H3 := Lib.hid h3
 have HSB := Lib.hid hsb
 have HBT := Lib.hid (show ∀ j, brLen (ss.take j) <= 1000 from fun j => by
  have h1 := congrArg brLen (List.take_append_drop j ss)
  rw [brLen_append] at h1
  omega)
 have OL2 := Lib.hid (show OwnInts (w.alloc (.cells #[.int .i64 0] tI)) w.heap.size tI (.slice (some ⟨w.heap.size, 0, none⟩) 1 1) [0] from ⟨own_lit w tI [.int .i64 0] (by simp [maxLen]), fun z hz => by simp at hz; subst hz; unfold In64; omega⟩)
 clear ha h3 hsb hbt
 go_enter Tryz.func212, Tryz.ntmps212
 go_wp2_with fail
 go_loopw [3, 11] (fun o i wq => ∃ j : Nat, j <= ss.length /\ i = .int .i64 j /\ OwnInts wq w.heap.size tI o (up (0 :: bumps (ss.take j))) /\ Below w.heap.size w wq) (fun _ i _ => ss.length - (intOf i).toNat)
 case atStart => exact ⟨0, Nat.zero_le _, rfl, by simpa [up, bumps] using OL2.out, below1 _ _⟩
 case round =>
  obtain ⟨j, hj, rfl, ho, hb⟩ := hrel
  clear OL2
  have HOI := Lib.hid ho
  have HBQ := Lib.hid hb
  clear ho hb
  by_cases hlt : j < ss.length
  · obtain ⟨ad', u, zs, rfl, hz, hu, hc'⟩ := H3.out j hlt
    have hq : ss[j]? = some (ss[j]'hlt) := List.getElem?_eq_getElem _
    have hzq : zs = up (ss[j]'hlt) := by rw [List.getElem?_map, hq] at hz; injection hz with hz; exact hz.symm
    subst hzq
    obtain ⟨Aq, cq, heq, l1, l2, hcq⟩ := hu.open_
    have HQB := Lib.hid (HSB.out _ (List.mem_of_getElem? hq))
    have HSN := Lib.hid (show ss.take (j + 1) = ss.take j ++ [ss[j]'hlt] by rw [List.take_add_one, hq]; rfl)
    rw [heq] at hc'
    generalize ss[j]'hlt = q at HQB HSN hc' hcq l1
    rw [up_len] at hc' hcq l1
    have hcu : wr.cell? (ad'.add j) = some (.slice Aq q.length cq) := by rw [HBQ.out.cell (by rw [block_add]; have := World.block_lt_of_cell? w _ hc'; rwa [block_add] at this)]; exact hc'
    have HCQ := Lib.hid hcq
    have hji : (j : Int) < (ss.length : Int) := by omega
    clear hz hq hu hc' heq hcq
    go_wp2_with fail
    clear hcu
    obtain ⟨wo, rfl⟩ : ∃ wo : World, wo = wr := ⟨_, rfl⟩
    go_loopw [3, 17] (fun o i wi => ∃ k : Nat, k <= q.length /\ i = .int .i64 k /\ OwnInts wi w.heap.size tI o (up (0 :: bumps (ss.take j) ++ bump (q.take k))) /\ Below w.heap.size w wi) (fun _ i _ => q.length - (intOf i).toNat)
    case atStart => exact ⟨0, Nat.zero_le _, rfl, by simpa [bump] using HOI.out, HBQ.out⟩
    case round =>
     obtain ⟨k, hk, rfl, ho, hb⟩ := hrel
     clear HOI HBQ
     have HOI := Lib.hid ho
     have HBQ := Lib.hid hb
     clear ho hb
     by_cases hlt2 : k < q.length
     · obtain ⟨aq, z, rfl, hz, -, hcz0⟩ := HCQ.out k hlt2
       obtain ⟨l, hlk, hzl⟩ := up_getD hz
       have hcz : wr.cell? (aq.add k) = some (.int .i64 z) := by
        rw [HBQ.out.cell (by rw [block_add]; have := World.block_lt_of_cell? w _ hcz0; rwa [block_add] at this)]; exact hcz0
       have hl1 := HQB.out.2 l (List.mem_of_getElem? hlk)
       have hwz : IntKind.i64.wrap (z + 1) = z + 1 := IntWalk.i64_in _ (by omega)
       have hz64 : In64 (z + 1) := by unfold In64; omega
       have HTK := Lib.hid (show bump (q.take (k + 1)) = bump (q.take k) ++ [l + 1] by rw [List.take_add_one, hlk, bump_append]; rfl)
       have HZL := Lib.hid hzl
       have HLN := Lib.hid (show (up (0 :: bumps (ss.take j) ++ bump (q.take k))).length <= 1000000 by
        have h1 := HBT.out j
        have h2 := HQB.out.1
        rw [up_len, List.length_append, List.length_cons, bumps_len, bump_len, List.length_take]
        omega)
       have hki : (k : Int) < (q.length : Int) := by omega
       clear hz hlk hcz0 hzl hl1
       go_wp2_with (at_builtin; refine wpList_app1 T_int HOI.out.1 (by rw [ints_len]; have := HLN.out; omega) HBQ.out.size (by rfl) rfl (by rfl) (by rfl) (by rfl) ?_; intro v1 w5 hown1 hgr1; have HN := Lib.hid hown1; have HB5 := Lib.hid (hgr1.below HBQ.out HBQ.out.size HOI.out.1.ge); clear hown1 hgr1)
       go_roundw
       case rel =>
        refine ⟨k + 1, by omega, by go_num, ?_, HB5.out⟩
        have e : up (0 :: bumps (ss.take j) ++ bump (q.take (k + 1))) = up (0 :: bumps (ss.take j) ++ bump (q.take k)) ++ [z + 1] := by
         rw [HTK.out, <- List.append_assoc, up_append, HZL.out]; rfl
        rw [e]
        exact ⟨by simpa [ints] using HN.out, fun y hy => by rcases List.mem_append.1 hy with hy | hy; exact HOI.out.2 y hy; simp at hy; subst hy; exact hz64⟩
       case measure => simp [intOf]; omega
     · have : k = q.length := by omega
       subst this
       have e : up (0 :: bumps (ss.take j) ++ bump (q.take q.length)) = up (0 :: bumps (ss.take (j + 1))) := by
        rw [List.take_length, HSN.out, bumps_append]; simp [bumps]
       have HOI2 := Lib.hid (e ▸ HOI.out)
       clear HOI e
       go_wp2_with fail
       go_roundw
       case rel => exact ⟨j + 1, by omega, by go_num, HOI2.out, HBQ.out⟩
       case measure => simp [intOf]; omega
  · have : j = ss.length := by omega
    subst this
    go_wp2_with fail
    go_ret
    have hfin := HOI.out
    rw [List.take_length] at hfin
    exact ⟨_, rfl, hfin, HBQ.out⟩
end Go.Proofs.YtofabikjjkapmaaGreat
namespace Go.Proofs
open Go.Shelf Go.RowKit Go.Lib Go.Sort
def Tryz.lsort_ren : Go.Shelf.Ren := ⟨fun | 6 => 239 | 15 => 246 | 14 => 256 | 28 => 266 | 29 => 267 | 20 => 274 | 21 => 275 | 22 => 276 | 23 => 277 | 24 => 278 | 25 => 279 | 26 => 280 | 27 => 281 | 46 => 291 | 47 => 284 | 48 => 285 | 49 => 292 | 50 => 293 | 57 => 299 | n => n, fun | 22 => 35 | 24 => 27 | 25 => 129 | 3 => 3 | 39 => 84 | 0 => 0 | 53 => 197 | 55 => 26 | 4 => 4 | 46 => 191 | 45 => 190 | 50 => 127 | 5 => 5 | 9 => 9 | 66 => 210 | 70 => 214 | 76 => 220 | 77 => 221 | n => n, fun | n => n⟩
theorem Tryz.lsort : Go.Proofs.SlLaysF.n6 Tryz.prog Tryz.lsort_ren := {
  mixed := by kernel_rfl
  f6 := ⟨Tryz.f239.name, by decide, Tryz.func239.trans (congrArg some (by kernel_rfl))⟩
  f14 := ⟨Tryz.f256.name, by decide, Tryz.func256.trans (congrArg some (by kernel_rfl))⟩
  f15 := Tryz.func246.trans (congrArg some (by kernel_rfl))
  f20 := ⟨Tryz.f274.name, by decide, Tryz.func274.trans (congrArg some (by kernel_rfl))⟩
  f21 := ⟨Tryz.f275.name, by decide, Tryz.func275.trans (congrArg some (by kernel_rfl))⟩
  f22 := ⟨Tryz.f276.name, by decide, Tryz.func276.trans (congrArg some (by kernel_rfl))⟩
  f23 := ⟨Tryz.f277.name, by decide, Tryz.func277.trans (congrArg some (by kernel_rfl))⟩
  f24 := ⟨Tryz.f278.name, by decide, Tryz.func278.trans (congrArg some (by kernel_rfl))⟩
  f25 := ⟨Tryz.f279.name, by decide, Tryz.func279.trans (congrArg some (by kernel_rfl))⟩
  f26 := ⟨Tryz.f280.name, by decide, Tryz.func280.trans (congrArg some (by kernel_rfl))⟩
  f27 := ⟨Tryz.f281.name, by decide, Tryz.func281.trans (congrArg some (by kernel_rfl))⟩
  f28 := Tryz.func266.trans (congrArg some (by kernel_rfl))
  f29 := Tryz.func267.trans (congrArg some (by kernel_rfl))
  f46 := ⟨Tryz.f291.name, by decide, Tryz.func291.trans (congrArg some (by kernel_rfl))⟩
  f47 := Tryz.func284.trans (congrArg some (by kernel_rfl))
  f48 := Tryz.func285.trans (congrArg some (by kernel_rfl))
  f49 := ⟨Tryz.f292.name, by decide, Tryz.func292.trans (congrArg some (by kernel_rfl))⟩
  f50 := ⟨Tryz.f293.name, by decide, Tryz.func293.trans (congrArg some (by kernel_rfl))⟩
  f57 := ⟨Tryz.f299.name, by decide, Tryz.func299.trans (congrArg some (by kernel_rfl))⟩
  t0 := Tryz.underlying0
  a0 := Tryz.isAgg0
  z0 := Tryz.sizeOf0
  v0 := Tryz.zeroValue0
  t3 := Tryz.underlying3
  a3 := Tryz.isAgg3
  z3 := Tryz.sizeOf3
  v3 := Tryz.zeroValue3
  t4 := Tryz.underlying4
  a4 := Tryz.isAgg4
  z4 := Tryz.sizeOf4
  v4 := Tryz.zeroValue4
  t5 := Tryz.underlying5
  a5 := Tryz.isAgg5
  z5 := Tryz.sizeOf5
  v5 := Tryz.zeroValue5
  t9 := Tryz.underlying9
  a9 := Tryz.isAgg9
  z9 := Tryz.sizeOf9
  v9 := Tryz.zeroValue9
  t22 := Tryz.underlying35
  a22 := Tryz.isAgg35
  z22 := Tryz.sizeOf35
  v22 := Tryz.zeroValue35
  a24 := Tryz.isAgg27
  z24 := Tryz.sizeOf27
  t25 := Tryz.underlying129
  a25 := Tryz.isAgg129
  z25 := Tryz.sizeOf129
  v25 := Tryz.zeroValue129
  t39 := Tryz.underlying84
  a39 := Tryz.isAgg84
  z39 := Tryz.sizeOf84
  v39 := Tryz.zeroValue84
  t45 := Tryz.underlying190
  a45 := Tryz.isAgg190
  z45 := Tryz.sizeOf190
  v45 := Tryz.zeroValue190
  t46 := Tryz.underlying191
  a46 := Tryz.isAgg191
  z46 := Tryz.sizeOf191
  v46 := Tryz.zeroValue191
  t50 := Tryz.underlying127
  a50 := Tryz.isAgg127
  z50 := Tryz.sizeOf127
  v50 := Tryz.zeroValue127
  t53 := Tryz.underlying197
  a53 := Tryz.isAgg197
  z53 := Tryz.sizeOf197
  v53 := Tryz.zeroValue197
  t55 := Tryz.underlying26
  a55 := Tryz.isAgg26
  z55 := Tryz.sizeOf26
  v55 := Tryz.zeroValue26
  t66 := Tryz.underlying210
  a66 := Tryz.isAgg210
  z66 := Tryz.sizeOf210
  v66 := Tryz.zeroValue210
  t70 := Tryz.underlying214
  a70 := Tryz.isAgg214
  z70 := Tryz.sizeOf214
  v70 := Tryz.zeroValue214
  t76 := Tryz.underlying220
  a76 := Tryz.isAgg220
  z76 := Tryz.sizeOf220
  v76 := Tryz.zeroValue220
  t77 := Tryz.underlying221
  a77 := Tryz.isAgg221
  z77 := Tryz.sizeOf221
  v77 := Tryz.zeroValue221 }
end Go.Proofs
namespace Go.Proofs.YtofabikjjkapmaaGreat
open Go.RowKit Go.Sort Go.Shelf
section
variable {α : Type} [Inhabited α] {enc : α -> Value} {w : World} {B g cap n : Nat} {e : TypeId} {d : List α} {os : Array Obj}
theorem holds_own (h : Own w B e (.slice (some ⟨g, 0, none⟩) d.length cap) (d.map enc)) : Holds enc w g 0 d.toArray := by
 rcases h.cases with ⟨e, _⟩ | ⟨g', cap', cur, e, h1, h2, h3, h4, h5, h6, h7⟩
 · cases e
 simp only [Value.slice.injEq, Option.some.injEq, Addr.mk.injEq] at e
 obtain ⟨⟨rfl, -⟩, -, rfl⟩ := e
 intro j hj
 have hj' : j < d.length := by simpa using hj
 refine ⟨?_, by simp [World.frozen?, h3]⟩
 have h8 : (cur.toList.take (d.map enc).length)[j]? = (d.map enc)[j]? := by rw [h7]
 rw [List.getElem?_take_of_lt (by simpa using hj')] at h8
 simp only [World.cell?, h3, Nat.zero_add]
 simp only [Option.isSome_none, Bool.false_eq_true, if_false]
 rw [<- Array.getElem?_toList, h8]
 simp [hj']
theorem heap_srt {cur : Array Value} {fr : Nat × Nat} (d : Array α) (hb : w.heap[g]? = some (.cells cur e fr)) :
  (sortWorld enc w g 0 n d os).heap[g]? = some (.cells (putCells enc 0 d cur) e fr) := by
 have hg : g < w.heap.size := (Array.getElem?_eq_some_iff.1 hb).1
 unfold sortWorld
 rw [heap_grow_old _ _ (by simpa using hg)]
 simp [putRow, mapBlock, Sort.ahead, Array.getElem?_modify, hb, onCells]
theorem grownBy_srt (d : Array α) : w.grownBy (sortWorld enc w g 0 n d os) (some g) := by
 unfold sortWorld
 refine ⟨rfl, rfl, rfl, by simp, fun k hk hne => ?_⟩
 rw [heap_grow_old _ _ (by simpa using hk)]
 have : g ≠ k := fun e => hne (by rw [e])
 simp [putRow, mapBlock, Sort.ahead, Array.getElem?_modify, this]
theorem take_put (cur : Array Value) (ts : List α) (h : ts.length <= cur.size) : (putCells enc 0 ts.toArray cur).toList.take ts.length = ts.map enc := by
 apply List.ext_getElem?
 intro j
 by_cases hj : j < ts.length
 · rw [List.getElem?_take_of_lt hj, Array.getElem?_toList]
   simp [putCells, hj, show j < cur.size by omega]
 · rw [List.getElem?_take_eq_none (by omega), List.getElem?_eq_none (by simp; omega)]
theorem own_srt {ts : List α} (h : Own w B e (.slice (some ⟨g, 0, none⟩) d.length cap) (d.map enc)) (hl : ts.length = d.length) :
  Own (sortWorld enc w g 0 n ts.toArray os) B e (.slice (some ⟨g, 0, none⟩) d.length cap) (ts.map enc) := by
 rcases h.cases with ⟨e, _⟩ | ⟨g', cap', cur, e, h1, h2, h3, h4, h5, h6, h7⟩
 · cases e
 simp only [Value.slice.injEq, Option.some.injEq, Addr.mk.injEq] at e
 obtain ⟨⟨rfl, -⟩, -, rfl⟩ := e
 rw [List.length_map] at h4
 unfold Own
 rw [List.length_map]
 exact ⟨by simp, .inr ⟨g, cap, _, by rw [hl], h1, heap_srt _ h3, by omega, h5, by simp [putCells, h6], by rw [Nat.mul_one]; exact take_put cur ts (by omega)⟩⟩
end
end Go.Proofs.YtofabikjjkapmaaGreat
