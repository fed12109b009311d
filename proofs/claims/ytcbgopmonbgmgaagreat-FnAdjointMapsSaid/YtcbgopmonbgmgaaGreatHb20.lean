/- Walks: agreement of maps, of the program and of the reference; maps cut down. | Walks: plus of the program, l02Add of the reference. | Walk: scaleMap of the program. | Walks: expMap, logMap, LogMap, ScaleMap, AddMaps, MultiplyMap of the program, plus9 of the laws. -/
import Derived.Test.YtcbgopmonbgmgaaGreatHb17
import Derived.Test.YtcbgopmonbgmgaaGreatHb3
import Derived.Test.YtcbgopmonbgmgaaGreatHb19
import Derived.Test.YtcbgopmonbgmgaaGreatHb10
import Derived.Test.YtcbgopmonbgmgaaGreatHb6
import Derived.Test.YtcbgopmonbgmgaaGreatHb15
import Derived.Deep.CutRange
import Derived.Deep.CutBlock
import Derived.Deep.DeepCutAuto
import Derived.Test.YtcbgopmonbgmgaaGreatHb1
set_option maxRecDepth 100000
set_option linter.unusedVariables false
set_option linter.unusedSimpArgs false
namespace Go.Proofs.YtcbgopmonbgmgaaGreat
open Go.RowKit

set_option maxHeartbeats 4000000 in
theorem i_keep (w : World) (v va : Value) (B : Option Addr) (m d g : Nat) (c0 : Value) (p : Nat → Bool) (a : List Int) (ha : Rows w v (T6n.map up)) (h1 : Ints w va a) (l1 : a.length = 38)
    (hcf : ∀ (args : Array Value) (w : World), Sem.run Tryz.prog (callFunc g args) w = .ok (.enter g args) w)
    (hp : ∀ (W : World) (n : Nat), Below w.heap.size w W → Calls Tryz.prog g #[.int .i64 n, c0] W fun e w' => e = .returned (.bool (p n)) ∧ W = w') :
    Calls Tryz.prog 173 #[.agg #[v, .slice B m d], va, .func (.func g) #[] #[c0]] w fun e w' => ∃ x, e = .returned x ∧ OwnInts w' w.heap.size tI x (kpZ p a) ∧ Below w.heap.size w w' := by
  obtain ⟨A, c, he, -, -, -⟩ := ha.open_
  rw [List.length_map, T6n_len] at he
  subst he
  have hbel : Below w.heap.size w (w.alloc (.cells #[.slice A 37 c, .slice B m d] 75)) := below1 w _
  have HRA := Lib.hid (ha.below hbel)
  have HIA := Lib.hid (h1.below hbel)
  obtain ⟨A1, c1, rfl, -, -, -⟩ := h1.open_
  rw [l1] at HIA ⊢
  have HLA := Lib.hid l1
  have HP := Lib.hid hp
  have HBX := Lib.hid (Blk.new w #[.slice A 37 c, .slice B m d] 75)
  have HBE := Lib.hid hbel
  clear ha hbel h1 l1 hp
  go_enter Tryz.func173, Tryz.ntmps173
  go_wp2_with (at_make; refine wpList_mk rfl _ _ _ rfl _ _ _ T_int 38 _ rfl rfl rfl (by omega) _ ?_; intro w1 hown hb hs1; rw [size_alloc'] at hown hb; have HOWN := Lib.hid hown; have HB1 := Lib.hid hb; clear hown hb)
  have HO0 := Lib.hid (show OwnInts w1 (w.heap.size + 1) tI (.slice (some ⟨(w.heap.size + 1), 0, none⟩) 38 38) (kpT p a 0) from by
    rw [kpT_zero]
    exact ⟨by simpa [ints] using HOWN.out, fun z hz => by have := List.eq_of_mem_replicate hz; subst this; unfold In64; omega⟩)
  clear HOWN hs1
  go_loopw [15] (fun x wr => ∃ i : Nat, i ≤ 38 ∧ x = .int .i64 i ∧ OwnInts wr (w.heap.size + 1) tI (.slice (some ⟨(w.heap.size + 1), 0, none⟩) 38 38) (kpT p a i) ∧ Below (w.heap.size + 1) (w.alloc (.cells #[.slice A 37 c, .slice B m d] 75)) wr) (fun x _ => 38 - (intOf x).toNat)
  case atStart => exact ⟨0, Nat.zero_le _, rfl, HO0.out, HB1.out⟩
  case round =>
    obtain ⟨i, hi, rfl, ho, hb⟩ := hrel
    have HO := Lib.hid ho
    have HB := Lib.hid hb
    clear ho hb
    by_cases hlt : i < 38
    · have hbq : Below (w.alloc (.cells #[.slice A 37 c, .slice B m d] 75)).heap.size (w.alloc (.cells #[.slice A 37 c, .slice B m d] 75)) wr := by rw [size_alloc']; exact HB.out
      obtain ⟨A1', c1', he, -, -, g1⟩ := (HIA.out.below hbq).open_
      rw [HLA.out] at he g1
      simp only [Value.slice.injEq, true_and] at he
      obtain ⟨rfl, rfl⟩ := he
      obtain ⟨a1, x, rfl, hx, hx64, hcx⟩ := g1 i hlt
      have hgx := ints_getD hx
      have hii : (i : Int) < 38 := by omega
      have HRW := Lib.hid (HRA.out.below hbq)
      have hbk := HBX.out.below HB.out (Nat.lt_succ_self _)
      have hf0 : wr.cell? ⟨w.heap.size, 0, none⟩ = some (.slice A 37 c) := hbk.cell 0
      have hf1 : wr.cell? ⟨w.heap.size, 1, none⟩ = some (.slice B m d) := hbk.cell 1
      have HX := Lib.hid hx64
      have HKS := Lib.hid (fun h : p (szN i) = true => show (kpT p a i).set i x = kpT p a (i + 1) from by rw [← hgx]; exact (kpT_take h).symm)
      have HKN := Lib.hid (fun h : p (szN i) = false => show kpT p a (i + 1) = kpT p a i from kpT_skip h)
      clear g1 hx hgx hx64 hbk hbq
      go_wp2_with (go_at_call 172; go_loud (refine (im_nodes _ _ B m d i HRW.out (by omega)).mono ?_; rintro e w2 ⟨rfl, hw2⟩; have hb2 : Below wr.heap.size wr w2 := (by rw [hw2]; exact below1 _ _); have HB2 := Lib.hid hb2; clear hw2))
      have HPP := Lib.hid (HP.out w2 (szN i) ((HBE.out.trans (HB.out.mono (Nat.le_succ _))).trans (HB2.out.mono (by have h2 := HB.out.size; rw [size_alloc'] at h2; omega))))
      obtain ⟨u0, -, hcg, hfg, -, -, hown', hgr⟩ := (HO.out.1.below HB2.out).storeAt (k := i) (by rw [ints_len, kpT_len]; exact hlt) (.int .i64 x)
      rw [ints_set] at hown'
      have HST := Lib.hid hown'
      have hge := HO.out.1.ge (w.heap.size + 1) rfl
      clear hown' hgr
      cases hpi : p (szN i) with
      | true =>
        rw [hpi] at HPP
        have HKK := Lib.hid (HKS.out hpi)
        clear hpi
        refine HPP.out.mono ?_
        rintro e w3 ⟨rfl, rfl⟩
        go_wp2_with fail
        go_roundw
        case rel =>
          refine ⟨i + 1, by omega, by go_num, ⟨?_, ?_⟩, (HB.out.trans (HB2.out.mono (by have h2 := HB.out.size; simpa using h2))).setCell hge _⟩
          · rw [← HKK.out]; exact HST.out
          · intro z hz
            rw [← HKK.out] at hz
            rcases List.mem_or_eq_of_mem_set hz with hz | hz
            · exact HO.out.2 z hz
            · rw [hz]; exact HX.out
        case measure => simp [intOf]; omega
      | false =>
        rw [hpi] at HPP
        have HKK := Lib.hid (HKN.out hpi)
        clear hpi
        refine HPP.out.mono ?_
        rintro e w3 ⟨rfl, rfl⟩
        go_wp2_with fail
        go_roundw
        case rel =>
          refine ⟨i + 1, by omega, by go_num, ?_, HB.out.trans (HB2.out.mono (by have h2 := HB.out.size; simpa using h2))⟩
          rw [HKK.out]; exact HO.out.below HB2.out
        case measure => simp [intOf]; omega
    · have hil : i = 38 := by omega
      have HF := Lib.hid (show kpT p a i = kpZ p a from by rw [hil]; exact kpT_full p a)
      clear hil
      go_wp2_with fail
      go_ret
      refine ⟨_, rfl, ?_, HBE.out.trans (HB.out.mono (Nat.le_succ _))⟩
      have h := HO.out
      rw [HF.out] at h
      exact h.mono (Nat.le_succ _)
end Go.Proofs.YtcbgopmonbgmgaaGreat

set_option linter.unusedVariables false
set_option linter.unusedSimpArgs false
namespace Go.Proofs.YtcbgopmonbgmgaaGreat
open Go.RowKit

/-- the first j places of a + k b -/
def addTo (k : Int) (a b : List Int) (j : Nat) : List Int := (List.range j).map fun i => (a.getD i 0 + k * b.getD i 0) % 10007
def addk (k : Int) (a b : List Int) : List Int := addTo k a b a.length
theorem addTo_len (k : Int) (a b : List Int) (j : Nat) : (addTo k a b j).length = j := by simp [addTo]
theorem addTo_succ {k : Int} {a b : List Int} {j : Nat} {x y : Int} (hx : a[j]? = some x) (hy : b[j]? = some y) : addTo k a b (j + 1) = addTo k a b j ++ [(x + k * y) % 10007] := by
  simp [addTo, List.range_succ, List.getD, hx, hy]
theorem addTo_nums (k : Int) (a b : List Int) (j : Nat) : Nums (addTo k a b j) := by
  intro z hz
  obtain ⟨i, _, rfl⟩ := List.mem_map.1 hz
  omega
theorem nums_in {zs : List Int} (h : Nums zs) : ∀ z ∈ zs, In64 z := by
  intro z hz
  have := h z hz
  unfold In64
  omega

set_option maxRecDepth 100000 in
set_option maxHeartbeats 1000000 in
theorem i_plus (w : World) (v v' : Value) (a b : List Int) (k : Int) (ha : Ints w v a) (hb : Ints w v' b) (hA : Nums a) (hB : Nums b) (hl : a.length ≤ b.length) (hn : a.length ≤ 4294967296) (h0 : -4000000000000000000 ≤ k) (h1 : k ≤ 4000000000000000000) :
    Calls Tryz.prog 174 #[v, v', .int .i64 k] w fun e w' => ∃ r, e = .returned r ∧ OwnInts w' w.heap.size tI r (addk (k % 10007) a b) ∧ Below w.heap.size w w' := by
  obtain ⟨A, c, rfl, l1, l2, h3⟩ := ha.open_
  obtain ⟨A', c', rfl, l1', l2', h3'⟩ := hb.open_
  have H3 := Lib.hid h3
  have G3 := Lib.hid h3'
  have HN := Lib.hid hA
  have HM := Lib.hid hB
  clear ha hb h3 h3' hA hB
  have OL := Lib.hid (own_lit w tI [] (by simp [maxLen]))
  go_enter Tryz.func174, Tryz.ntmps174
  go_wp2_with fail
  go_loopw [7, 13] (fun o i wr => ∃ j : Nat, j ≤ a.length ∧ i = .int .i64 j ∧ Own wr w.heap.size tI o (ints (addTo (k % 10007) a b j)) ∧ Below w.heap.size w wr) (fun _ i _ => a.length - (intOf i).toNat)
  case atStart => exact ⟨0, Nat.zero_le _, rfl, by simpa [addTo, ints] using OL.out, (Below.refl _ _).alloc (Nat.le_refl _) _⟩
  case round =>
    obtain ⟨j, hj, rfl, hown, hb⟩ := hrel
    clear OL
    have HO := Lib.hid hown
    have HB := Lib.hid hb
    clear hown hb
    by_cases hlt : j < a.length
    · obtain ⟨ad, x, rfl, hx, -, hcx⟩ := H3.out j hlt
      obtain ⟨ad', y, rfl, hy, -, hcy⟩ := G3.out j (by omega)
      have hc : wr.cell? (ad.add j) = some (.int .i64 x) := by
        rw [HB.out.cell (by rw [block_add]; have := World.block_lt_of_cell? w _ hcx; rwa [block_add] at this)]; exact hcx
      have hc' : wr.cell? (ad'.add j) = some (.int .i64 y) := by
        rw [HB.out.cell (by rw [block_add]; have := World.block_lt_of_cell? w _ hcy; rwa [block_add] at this)]; exact hcy
      have hxn := HN.out x (List.mem_of_getElem? hx)
      have hyn := HM.out y (List.mem_of_getElem? hy)
      have HS := Lib.hid (addTo_succ (k := k % 10007) hx hy)
      have hm0 : 0 ≤ k % 10007 ∧ k % 10007 ≤ 10006 := by omega
      obtain ⟨p1, p2⟩ := mul_bd 10006 10006 hm0.1 hm0.2 hyn.1 hyn.2
      have hjb : (j : Int) < (b.length : Int) := by omega
      have hjb' : j < b.length := by omega
      clear hx hy hcx hcy
      go_wp2_with fail
      have wA : IntKind.i64.wrap (k % 10007 * y) = k % 10007 * y := IntWalk.i64_in _ (by omega)
      have wB : IntKind.i64.wrap (x + k % 10007 * y) = x + k % 10007 * y := IntWalk.i64_in _ (by omega)
      go_region_law (first | (refine step_app1 T_int (B := w.heap.size) (W := wr.drew) (by exact HO.out) (by rw [ints_len, addTo_len]; omega) (by exact HB.out.size) (by rfl) rfl (by rfl) (by rfl) (by rfl) ?_; intro v1 w1 hown1 hgr1) | (go_simp; go_at_call 76; refine (i_num _ _ (by omega) (by omega)).mono ?_; rintro e w' ⟨rfl, rfl⟩))
      all_goals
        go_wp2_with fail
        go_roundw
        case rel =>
          refine ⟨j + 1, by omega, by go_num, ?_, hgr1.below HB.out.drew HB.out.size HO.out.ge⟩
          rw [HS.out]
          simpa [ints] using hown1
        case measure => simp [intOf]; omega
    · have : j = a.length := by omega
      subst this
      go_wp2_with fail
      go_ret
      exact ⟨_, rfl, ⟨HO.out, nums_in (addTo_nums _ _ _ _)⟩, HB.out⟩
end Go.Proofs.YtcbgopmonbgmgaaGreat

set_option maxRecDepth 100000
set_option linter.unusedVariables false
set_option linter.unusedSimpArgs false
namespace Go.Proofs.YtcbgopmonbgmgaaGreat
open Go.RowKit

theorem scZ_step (a : List Int) (k : Int) {i : Nat} (h : i < 38) : ints ((scZ a k).take (i + 1)) = ints ((scZ a k).take i) ++ [.int .i64 (a.getD i 0 * pw k (szN i) % 10007)] := by
  rw [List.take_add_one, scZ_get a k h, ints, ints, List.map_append]; rfl
set_option maxHeartbeats 8000000 in
theorem i_scaleMap (w : World) (v va : Value) (B : Option Addr) (m d : Nat) (a : List Int) (k : Int) (ha : Rows w v (T6n.map up)) (h1 : Ints w va a) (l1 : a.length = 38) (hN1 : Nums a) (hk0 : 0 ≤ k) (hk1 : k ≤ 10006) :
    Calls Tryz.prog 97 #[.agg #[v, .slice B m d], va, .int .i64 k] w fun e w' => ∃ x, e = .returned x ∧ OwnInts w' w.heap.size tI x (scZ a k) ∧ Below w.heap.size w w' := by
  obtain ⟨A, c, he, -, -, -⟩ := ha.open_
  rw [List.length_map, T6n_len] at he
  subst he
  obtain ⟨Aa, ca, rfl, -, -, -⟩ := h1.open_
  rw [l1] at h1 ⊢
  obtain ⟨ada, rfl, -, -, -⟩ := map_cell h1 hN1 (k := 0) (by omega)
  obtain ⟨wb, hwb⟩ : ∃ wb, wb = w.alloc (.cells #[.slice A 37 c, .slice B m d] 75) := ⟨_, rfl⟩
  have hbb : Below w.heap.size w wb := by rw [hwb]; exact below1 w _
  have HBX := Lib.hid hbb
  have HF := Lib.hid (show Blk wb w.heap.size 75 #[.slice A 37 c, .slice B m d] from by rw [hwb]; exact Blk.new _ _ _)
  have HR := Lib.hid (ha.below hbb)
  have HA := Lib.hid (h1.below hbb)
  have HNA := Lib.hid hN1
  have HSZ := Lib.hid (scZ_len a k)
  have OL := Lib.hid (show Own (wb.alloc (.cells #[] tI)) wb.heap.size tI (.slice (some ⟨wb.heap.size, 0, none⟩) 0 0) (ints ((scZ a k).take 0)) from own_lit wb tI [] (by simp [maxLen]))
  clear ha h1 l1 hN1 hbb
  go_enter Tryz.func97, Tryz.ntmps97
  go_upto_region 1 with fail
  rw [← hwb]
  clear hwb
  go_wp2_with fail
  go_loopw [7, 13] (fun o x wr => ∃ i : Nat, i ≤ 38 ∧ x = .int .i64 i ∧ Own wr wb.heap.size tI o (ints ((scZ a k).take i)) ∧ Below wb.heap.size wb wr) (fun _ x _ => 38 - (intOf x).toNat)
  case atStart => exact ⟨0, Nat.zero_le _, rfl, OL.out, below1 wb _⟩
  case round =>
    obtain ⟨i, hi, rfl, ho, hb⟩ := hrel
    rename World => wq
    clear OL
    have hel : ((scZ a k).take i).length = i := by rw [List.length_take, HSZ.out]; omega
    have hol := ho.cells.open_
    rw [ints_len, hel] at hol
    obtain ⟨Ao, co, rfl, -, -⟩ := hol
    have HEL := Lib.hid hel
    have HO := Lib.hid ho
    have HBQ := Lib.hid hb
    have hq0 : wq.cell? ⟨w.heap.size, 0, none⟩ = some (.slice A 37 c) := (HF.out.below hb HF.out.lt).cell 0
    have hq1 : wq.cell? ⟨w.heap.size, 1, none⟩ = some (.slice B m d) := (HF.out.below hb HF.out.lt).cell 1
    clear ho hel
    by_cases hlt : i < 38
    · obtain ⟨_, he, hcx, hx0, hx1⟩ := map_cell (HA.out.below hb) HNA.out (k := i) hlt
      simp only [Option.some.injEq] at he
      subst he
      have HTS := Lib.hid (scZ_step a k hlt)
      have HIN := Lib.hid (im_nodes wq (.slice A 37 c) B m d i (HR.out.below hb) (by omega))
      have hsz := szN_le i
      have hpb := pw_bd k (szN i)
      have HPW := Lib.hid (fun W => show Calls Tryz.prog 170 #[.int .i64 k, .int .i64 (szN i : Nat)] W fun e w' => e = .returned (.int .i64 (pw k (szN i))) ∧ W = w' from by
        have h := i_pow k (szN i : Nat) W hk0 (by omega) (by omega) (by omega)
        rwa [Int.toNat_natCast] at h)
      obtain ⟨P, hP⟩ : ∃ P, P = pw k (szN i) := ⟨_, rfl⟩
      rw [← hP] at hpb HPW HTS
      generalize a.getD i 0 = y at *
      generalize szN i = s at *
      obtain ⟨p1, p2⟩ := mul_bd 10006 10006 hx0 hx1 hpb.1 hpb.2
      have hii : (i : Int) < 38 := by omega
      clear hb hP
      go_wp2_with (first
        | (go_at_call 172; go_loud (refine HIN.out.mono ?_; rintro e w2 ⟨rfl, hw2⟩; have HB2 := Lib.hid (show Below wb.heap.size wb w2 from by rw [hw2]; exact HBQ.out.trans ((below1 _ _).mono HBQ.out.size)); have HOX := Lib.hid (show Own w2 wb.heap.size tI (.slice Ao i co) (ints ((scZ a k).take i)) from HO.out.below (by rw [hw2]; exact below1 _ _)); clear hw2))
        | (go_at_call 170; refine (HPW.out _).mono ?_; rintro e w3 ⟨rfl, rfl⟩)
        | (go_at_call 76; refine (i_num (y * P) _ (by omega) (by omega)).mono ?_; rintro e w3 ⟨rfl, rfl⟩)
        | (at_builtin; go_loud (refine wpList_app1 T_int HOX.out (by rw [ints_len, HEL.out]; omega) HB2.out.size (by rfl) rfl (by rfl) (by rfl) (by rfl) ?_; intro v1 w6 hown1 hgr1; have HN := Lib.hid hown1; have HGR := Lib.hid hgr1; clear hown1 hgr1)))
      go_roundw
      case rel =>
        refine ⟨i + 1, by omega, by go_num, ?_, HGR.out.below HB2.out HB2.out.size HO.out.ge⟩
        rw [HTS.out]; exact HN.out
      case measure => simp [intOf]; omega
    · have hil : (scZ a k).take i = scZ a k := List.take_of_length_le (by rw [HSZ.out]; omega)
      have HFF := Lib.hid hil
      clear hil
      go_wp2_with fail
      go_ret
      refine ⟨_, rfl, ⟨?_, fun z hz => in64_num (scZ_nums a k z hz)⟩, HBX.out.trans (HBQ.out.mono HBX.out.size)⟩
      have h := HO.out
      rw [HFF.out] at h
      exact h.mono HBX.out.size
end Go.Proofs.YtcbgopmonbgmgaaGreat

set_option maxRecDepth 100000
set_option linter.unusedVariables false
set_option linter.unusedSimpArgs false
namespace Go.Proofs.YtcbgopmonbgmgaaGreat
open Go.RowKit

theorem acJ_mod (b x : List Int) (c : MC) : acJ b x c % 10007 = actT (gz b) (gz x) c % 10007 := by
  obtain ⟨⟨cr, tr⟩, n⟩ := c
  match cr with
  | [] => rfl
  | [k] =>
    show (n : Int) * (b.getD k 0 * x.getD tr 0 % 10007) % 10007 % 10007 = (n : Int) * (b.getD k 0 * x.getD tr 0) % 10007
    rw [Int.emod_emod_of_dvd _ (Int.dvd_refl _), mul_modR]
  | k :: j :: ks => rfl
theorem acY_gz (b x : List Int) {p : Nat} (hp : p < 38) : gz (acY b x) p % 10007 = actV (gz b) (gz x) p % 10007 := by
  cases p with
  | zero => rfl
  | succ n =>
    have e : gz (acY b x) (n + 1) = sumF (acJ b x) (CTab.getD n []) % 10007 := by
      show (acY b x).getD (n + 1) 0 = _
      rw [List.getD_eq_getElem?_getD, acY_get b x (by omega)]
      rfl
    rw [e, Int.emod_emod_of_dvd _ (Int.dvd_refl _)]
    exact sumF_modc fun c _ => acJ_mod b x c
/-- the number that a variable holds -/
def ptN (x : Value) (w : World) : Nat := match x with
  | .pointer (some ad) => match w.cell? ad with
    | some v => (intOf v).toNat
    | none => 0
  | _ => 0
/-- the powers of the action -/
def xY (b : List Int) : Nat → List Int
  | 0 => unM
  | k + 1 => acY b (xY b k)
def eY (b : List Int) : Nat → List Int
  | 0 => unM
  | k + 1 => addk (ifa (k + 1) : Nat) (eY b k) (xY b (k + 1))
theorem xY_len (b : List Int) (k : Nat) : (xY b k).length = 38 := by cases k; exact unM_len; exact acY_len _ _
theorem xY_nums (b : List Int) (k : Nat) : Nums (xY b k) := by cases k; exact unM_nums; exact acY_nums _ _
theorem eY_len (b : List Int) : ∀ k : Nat, (eY b k).length = 38
  | 0 => unM_len
  | k + 1 => by show (addTo _ _ _ _).length = 38; rw [addTo_len]; exact eY_len b k
theorem eY_nums (b : List Int) (k : Nat) : Nums (eY b k) := by cases k; exact unM_nums; exact addTo_nums _ _ _ _
theorem xY_gz (b : List Int) : ∀ (k : Nat) {p : Nat}, p < 38 → gz (xY b k) p % 10007 = xV (gz b) k p % 10007
  | 0, p, hp => by rw [show xY b 0 = unM from rfl, unM_gz hp]; rfl
  | k + 1, p, hp => by
    rw [show xY b (k + 1) = acY b (xY b k) from rfl, acY_gz b _ hp]
    exact actV_mod fun c hc => ⟨fun _ _ => rfl, xY_gz b k (by have := (pc_at hp hc).2; omega)⟩
theorem addk_gz (k : Int) (a b : List Int) {p : Nat} (hp : p < a.length) : gz (addk k a b) p = (gz a p + k * gz b p) % 10007 := by
  unfold gz addk addTo
  rw [List.getD_eq_getElem?_getD, List.getElem?_map, List.getElem?_range hp]
  rfl
theorem eY_gz (b : List Int) : ∀ (k : Nat) {p : Nat}, p < 38 → gz (eY b k) p % 10007 = eV (gz b) k p % 10007
  | 0, p, hp => by rw [show eY b 0 = unM from rfl, unM_gz hp]; rfl
  | k + 1, p, hp => by
    rw [show eY b (k + 1) = addk (ifa (k + 1) : Nat) (eY b k) (xY b (k + 1)) from rfl, addk_gz _ _ _ (by rw [eY_len]; exact hp)]
    have h1 := eY_gz b k hp
    have h2 := xY_gz b (k + 1) hp
    show _ % 10007 = (eV (gz b) k p + (ifa (k + 1) : Int) * xV (gz b) (k + 1) p) % 10007
    rw [Int.emod_emod_of_dvd _ (Int.dvd_refl _), Int.add_emod, h1, Int.mul_emod, h2, ← Int.mul_emod, ← Int.add_emod]
theorem eY_exp (b : List Int) : eY b 6 = expZ b := nums_ext (eY_nums b 6) (expZ_nums b) (eY_len b 6) (expZ_len b) fun p hp => by
  rw [eY_gz b 6 hp, expZ_gz b hp, Int.emod_emod_of_dvd _ (Int.dvd_refl _)]
def e5 : Nat := 10005
def okIf (k : Nat) : Bool := Nat.beq (facN k ^ e5 % 10007) (ifa k)
theorem ifa1 : (List.range 6).all (fun k => okIf (k + 1)) = true := by decide +kernel
theorem ifa_pw {k : Nat} (h1 : 1 ≤ k) (h6 : k ≤ 6) : pw (facN k : Nat) e5 = ((ifa k : Nat) : Int) := by
  have h := ifa1
  rw [List.all_eq_true] at h
  have h2 := h (k - 1) (List.mem_range.2 (by omega))
  rw [show k - 1 + 1 = k by omega] at h2
  unfold okIf at h2
  have e := Nat.eq_of_beq_eq_true h2
  rw [pw_nat]
  exact congrArg (fun n : Nat => (n : Int)) e
theorem ifa_le (k : Nat) : ifa k ≤ 10006 := by
  unfold ifa
  split <;> omega
set_option maxHeartbeats 8000000 in
theorem i_expMap (w : World) (vp va : Value) (Af : Option Addr) (cf Bp : Nat) (b : List Int) (hP : FrC w Bp vp) (h1 : Ints w va b) (l1 : b.length = 38) (n1 : Nums b) :
    Calls Tryz.prog 105 #[.agg #[.slice Af 37 cf, vp], va] w fun e w' => ∃ r, e = .returned r ∧ OwnInts w' w.heap.size tI r (expZ b) ∧ Below w.heap.size w w' := by
  obtain ⟨Ay, cy, rfl, -⟩ := hP.at_
  obtain ⟨Aa, ca, rfl, -, -, -⟩ := h1.open_
  rw [l1] at h1 ⊢
  obtain ⟨W, hW⟩ : ∃ W, W = w.alloc (.cells #[.slice Af 37 cf, .slice Ay 37 cy] tFo) := ⟨_, rfl⟩
  have hbw : Below w.heap.size w W := by rw [hW]; exact below1 w _
  have HBW := Lib.hid hbw
  have HKF := Lib.hid (show Blk W w.heap.size tFo #[.slice Af 37 cf, .slice Ay 37 cy] from by rw [hW]; exact Blk.new _ _ _)
  have HFW := Lib.hid (hP.below hbw)
  have HAW := Lib.hid (h1.below hbw)
  have HL := Lib.hid (And.intro l1 n1)
  have HE := Lib.hid (eY_exp b)
  clear hP h1 l1 n1 hbw
  go_enter Tryz.func105, Tryz.ntmps105
  go_upto_region 1 with fail
  rw [← hW]
  clear hW
  go_wp2_with (first
    | (go_at_call 178; (with_reducible refine (i_UnitMap W).mono ?_); go_loud (rintro e w1 ⟨x1, rfl, ho1, hb1⟩; have HO1 := Lib.hid ho1; have HB2 := Lib.hid hb1; clear ho1 hb1))
    | (go_at_call 178; (with_reducible refine (i_UnitMap w1).mono ?_); go_loud (rintro e w2 ⟨x2, rfl, ho2, hb2⟩; have HO2 := Lib.hid (ho2.mono HB2.out.size); have HO12 := Lib.hid (HO1.out.below hb2); have HB3 := Lib.hid (HB2.out.trans (hb2.mono HB2.out.size)); clear ho2 hb2)))
  go_loopw [5, 6, 7] (fun o x y wr => ∃ k : Nat, k ≤ 6 ∧ y = .int .i64 ((k : Int) + 1) ∧ OwnInts wr W.heap.size tI o (eY b k) ∧ OwnInts wr W.heap.size tI x (xY b k) ∧ Below W.heap.size W wr) (fun _ _ y _ => 7 - (intOf y).toNat)
  case atStart => exact ⟨0, by omega, rfl, HO12.out, HO2.out, HB3.out⟩
  case round =>
    obtain ⟨k, hk7, rfl, ho, hx, hb⟩ := hrel
    rename World => wq
    clear HO1 HO2 HO12 HB2 HB3
    have HO := Lib.hid ho
    have HX := Lib.hid hx
    have HB := Lib.hid hb
    have HKQ := Lib.hid (HKF.out.below hb HKF.out.lt)
    clear ho hx hb
    have q0 : wq.cell? ⟨w.heap.size, 0, none⟩ = some (.slice Af 37 cf) := HKQ.out.cell 0
    have q1 : wq.cell? ⟨w.heap.size, 1, none⟩ = some (.slice Ay 37 cy) := HKQ.out.cell 1
    by_cases hle : k < 6
    · have hll : (k : Int) + 1 ≤ 6 := by omega
      have hcast : (k : Int) + 1 = ((k + 1 : Nat) : Int) := by omega
      have HFA := Lib.hid (fun X => show Calls Tryz.prog 180 #[.int .i64 ((k : Int) + 1)] X fun e w' => e = .returned (.int .i64 (facN (k + 1) : Nat)) ∧ X = w' from by rw [hcast]; exact i_factorial X (k + 1) (by omega) (by omega))
      have HIV := Lib.hid (fun X => show Calls Tryz.prog 95 #[.int .i64 (facN (k + 1) : Nat)] X fun e w' => e = .returned (.int .i64 (ifa (k + 1) : Nat)) ∧ X = w' from by
        have h := i_inv (facN (k + 1) : Nat) X (by omega) (by have := facN_le (k + 1); omega)
        rwa [show pw (facN (k + 1) : Nat) 10005 = ((ifa (k + 1) : Nat) : Int) from ifa_pw (by omega) (by omega)] at h)
      have HXS := Lib.hid (show xY b (k + 1) = acY b (xY b k) from rfl)
      have HES := Lib.hid (show eY b (k + 1) = addk ((ifa (k + 1) : Nat) : Int) (eY b k) (xY b (k + 1)) from rfl)
      have hif := ifa_le (k + 1)
      clear hcast
      generalize ifa (k + 1) = f1 at *
      generalize facN (k + 1) = f2 at *
      go_wp2_with (first
        | (go_at_call 179; go_loud (refine (i_actOn _ _ _ _ Af cf Bp b (xY b k) (HFW.out.below HB.out) (HAW.out.below HB.out) HL.out.1 HL.out.2 HX.out.ints (xY_len _ _) (xY_nums _ _)).mono ?_; rintro e w3 ⟨x3, rfl, ho3, hb3⟩; have HX3 := Lib.hid (show OwnInts w3 W.heap.size tI x3 (xY b (k + 1)) from by rw [HXS.out]; exact ho3.mono HB.out.size); have HO3 := Lib.hid (HO.out.below hb3); have HB3 := Lib.hid (HB.out.trans (hb3.mono HB.out.size)); clear ho3 hb3))
        | (go_at_call 180; refine (HFA.out _).mono ?_; rintro e w4 ⟨rfl, rfl⟩)
        | (go_at_call 95; refine (HIV.out _).mono ?_; rintro e w4 ⟨rfl, rfl⟩)
        | (go_at_call 174; go_loud (refine (i_plus _ _ _ (eY b k) (xY b (k + 1)) (f1 : Nat) HO3.out.ints HX3.out.ints (eY_nums _ _) (xY_nums _ _) (by rw [eY_len, xY_len]; exact Nat.le_refl _) (by rw [eY_len]; omega) (by omega) (by omega)).mono ?_; rintro e w6 ⟨x6, rfl, ho6, hb6⟩; have HO6 := Lib.hid (show OwnInts w6 W.heap.size tI x6 (eY b (k + 1)) from by rw [HES.out]; rw [show ((f1 : Nat) : Int) % 10007 = ((f1 : Nat) : Int) by omega] at ho6; exact ho6.mono HB3.out.size); have HX6 := Lib.hid (HX3.out.below hb6); have HB6 := Lib.hid (HB3.out.trans (hb6.mono HB3.out.size)); clear ho6 hb6)))
      go_roundw
      case rel => exact ⟨k + 1, by omega, by go_num, HO6.out, HX6.out, HB6.out⟩
      case measure => simp [intOf]; omega
    · have hk6 : k = 6 := by omega
      subst hk6
      rw [HE.out] at HO
      go_wp2_with fail
      go_ret
      exact ⟨_, rfl, HO.out.mono HBW.out.size, HBW.out.trans (HB.out.mono HBW.out.size)⟩
set_option maxHeartbeats 400000 in
theorem i_logMap1 (w : World) (n : Nat) (p : Int) (b : Nat) (hc : w.cell? ⟨b, 0, none⟩ = some (.int .i64 p)) :
    Calls Tryz.prog 175 #[.int .i64 n, .pointer (some ⟨b, 0, none⟩)] w fun e w' => e = .returned (.bool (decide ((n : Int) = p))) ∧ w = w' := by
  have HQ := Lib.hid (show ((n : Int) == p) = decide ((n : Int) = p) from by by_cases h : (n : Int) = p <;> simp [h])
  go_enter Tryz.func175, Tryz.ntmps175
  go_wp2_with fail
  go_ret
  exact ⟨ret_bool HQ.out, rfl⟩
def lgP (n : Int) (m : Nat) : Bool := decide ((m : Int) = n)
theorem kpZ_nums {p : Nat → Bool} {a : List Int} (h : Nums a) : Nums (kpZ p a) := by
  intro z hz
  obtain ⟨k, -, rfl⟩ := List.mem_map.1 hz
  split
  · exact getD_nums h k
  · omega
theorem lgS_step (a : List Int) (l1 : a.length = 38) (n : Nat) : addk 1 (lgS a n) (kpZ (lgP ((n : Int) + 1)) (addk 10006 a (expZ (lgS a n)))) = lgS a (n + 1) := by
  refine nums_ext (addTo_nums _ _ _ _) (lgS_nums a (n + 1)) (by show (addTo _ _ _ _).length = 38; rw [addTo_len, lgS_len]) (lgS_len _ _) fun p hp => ?_
  rw [addk_gz 1 _ _ (by rw [lgS_len]; exact hp)]
  have hk : gz (kpZ (lgP ((n : Int) + 1)) (addk 10006 a (expZ (lgS a n)))) p = if szT p = n + 1 then (gz a p + 10006 * gz (expZ (lgS a n)) p) % 10007 else 0 := by
    have e : gz (kpZ (lgP ((n : Int) + 1)) (addk 10006 a (expZ (lgS a n)))) p = if lgP ((n : Int) + 1) (szN p) = true then gz (addk 10006 a (expZ (lgS a n))) p else 0 := by
      unfold gz kpZ
      rw [List.getD_eq_getElem?_getD, List.getElem?_map, List.getElem?_range hp]
      rfl
    rw [e, ← szT_is hp]
    by_cases h : szT p = n + 1
    · rw [if_pos h, if_pos (show lgP ((n : Int) + 1) (szT p) = true from by unfold lgP; exact decide_eq_true (by omega)), addk_gz 10006 a _ (by rw [l1]; exact hp)]
    · rw [if_neg h, if_neg (by unfold lgP; rw [decide_eq_true_eq]; omega)]
  have hr : gz (lgS a (n + 1)) p = _ := lgS_get a n hp
  rw [hk, hr]
  by_cases h : szT p = n + 1
  · rw [if_pos h, if_pos h]
    have h0 : gz (lgS a n) p = 0 := lgS_great a n hp (by omega)
    rw [h0]
    show (0 + 1 * ((gz a p + 10006 * gz (expZ (lgS a n)) p) % 10007)) % 10007 % 10007 = (gz a p - gz (expZ (lgS a n)) p) % 10007 % 10007
    generalize gz a p = x
    generalize gz (expZ (lgS a n)) p = y
    omega
  · rw [if_neg h, if_neg h]
    show (gz (lgS a n) p + 1 * 0) % 10007 % 10007 = gz (lgS a n) p % 10007
    generalize gz (lgS a n) p = x
    omega
set_option maxHeartbeats 16000000 in
theorem i_logMap (w : World) (vp va : Value) (Af : Option Addr) (cf Bp : Nat) (a : List Int) (hR : Rows w (.slice Af 37 cf) (T6n.map up)) (hP : FrC w Bp vp) (h1 : Ints w va a) (l1 : a.length = 38) (n1 : Nums a) :
    Calls Tryz.prog 100 #[.agg #[.slice Af 37 cf, vp], va] w fun e w' => ∃ r, e = .returned r ∧ OwnInts w' w.heap.size tI r (lgZ a) ∧ Below w.heap.size w w' := by
  obtain ⟨Ay, cy, rfl, -⟩ := hP.at_
  obtain ⟨Aa, ca, rfl, -, -, -⟩ := h1.open_
  rw [l1] at h1 ⊢
  obtain ⟨W, hW⟩ : ∃ W, W = w.alloc (.cells #[.slice Af 37 cf, .slice Ay 37 cy] tFo) := ⟨_, rfl⟩
  have hbw : Below w.heap.size w W := by rw [hW]; exact below1 w _
  have HBW := Lib.hid hbw
  have HKF := Lib.hid (show Blk W w.heap.size tFo #[.slice Af 37 cf, .slice Ay 37 cy] from by rw [hW]; exact Blk.new _ _ _)
  have HRW := Lib.hid (hR.below hbw)
  have HFW := Lib.hid (hP.below hbw)
  have HAW := Lib.hid (h1.below hbw)
  have HL := Lib.hid (And.intro l1 n1)
  clear hR hP h1 l1 n1 hbw
  go_enter Tryz.func100, Tryz.ntmps100
  go_upto_region 1 with fail
  rw [← hW]
  clear hW
  go_upto_region 2 with (at_make; refine wpList_mk rfl _ _ _ rfl _ _ _ T_int 38 _ rfl rfl rfl (by omega) _ ?_; intro w2 hown hb2 hs2; have HO2 := Lib.hid (show OwnInts w2 W.heap.size tI (.slice (some ⟨W.heap.size, 0, none⟩) 38 38) (lgS a 0) from ⟨hown, fun z hz => by rw [List.eq_of_mem_replicate hz]; unfold In64; omega⟩); have HB2 := Lib.hid hb2; clear hown hb2 hs2)
  generalize (Value.slice (some ⟨W.heap.size, 0, none⟩) 38 38) = x0 at HO2 ⊢
  have HO3 := Lib.hid (HO2.out.below (below1 w2 (.cells #[.int .i64 1] tI)))
  have HB3 := Lib.hid (HB2.out.trans ((below1 w2 (.cells #[.int .i64 1] tI)).mono HB2.out.size))
  have HK3 := Lib.hid (Blk.new w2 #[.int .i64 1] tI)
  have HSZ := Lib.hid (show W.heap.size ≤ w2.heap.size from HB2.out.size)
  go_wp2_with fail
  go_loopw [5, 6] (fun o x wr => ∃ (k b : Nat), k ≤ 6 ∧ x = .pointer (some ⟨b, 0, none⟩) ∧ Blk wr b tI #[.int .i64 ((k : Int) + 1)] ∧ W.heap.size ≤ b ∧ OwnInts wr W.heap.size tI o (lgS a k) ∧ (∀ c, o.ownBlock = some c → c ≠ b) ∧ Below W.heap.size W wr) (fun _ x wr => 7 - ptN x wr)
  case atStart => exact ⟨0, w2.heap.size, by omega, rfl, HK3.out, HSZ.out, HO3.out, (fun c hc e => by have := HO2.out.1.lt c hc; omega), HB3.out⟩
  case round =>
    obtain ⟨k, bb, hk6, rfl, hkb, hbw, ho, hne, hb⟩ := hrel
    rename World => wq
    clear HO2 HO3 HB2 HB3 HK3 HSZ
    have HO := Lib.hid ho
    have HB := Lib.hid hb
    have HKB := Lib.hid hkb
    have HKQ := Lib.hid (HKF.out.below hb HKF.out.lt)
    have HM0 := Lib.hid (show ptN (.pointer (some ⟨bb, 0, none⟩)) wq = k + 1 from by
      have kc : wq.cell? ⟨bb, 0, none⟩ = some (.int .i64 ((k : Int) + 1)) := hkb.cell 0
      show (match wq.cell? ⟨bb, 0, none⟩ with | some v => (intOf v).toNat | none => 0) = k + 1
      rw [kc]
      show ((k : Int) + 1).toNat = k + 1
      omega)
    have kb : wq.cell? ⟨bb, 0, none⟩ = some (.int .i64 ((k : Int) + 1)) := hkb.cell 0
    clear ho hb hkb hne
    by_cases hle : k < 6
    · have hll : (k : Int) + 1 ≤ 6 := by omega
      have HS := Lib.hid (lgS_step a HL.out.1 k)
      obtain ⟨Ao, co, heo, -, -⟩ := HO.out.1.cells.open_
      rw [ints_len, lgS_len] at heo
      subst heo
      have HPQ := Lib.hid (HFW.out.below HB.out)
      have HRQ := Lib.hid (HRW.out.below HB.out)
      have HAQ := Lib.hid (HAW.out.below HB.out)
      have HEX := Lib.hid (show ∀ X, Below wq.heap.size wq X → Calls Tryz.prog 105 #[.agg #[.slice Af 37 cf, .slice Ay 37 cy], .slice Ao 38 co] X (fun e w' => ∃ r, e = .returned r ∧ OwnInts w' wq.heap.size tI r (expZ (lgS a k)) ∧ Below wq.heap.size wq w') from fun X hX => by
        have h := i_expMap X (.slice Ay 37 cy) (.slice Ao 38 co) Af cf _ (lgS a k) (HPQ.out.below hX) ((HO.out.below hX).ints) (lgS_len _ _) (lgS_nums _ _)
        exact h.mono (by rintro e w5 ⟨r5, rfl, ho5, hb5⟩; exact ⟨r5, rfl, ho5.mono hX.size, hX.trans (hb5.mono hX.size)⟩))
      have HPL := Lib.hid (show ∀ X r, Below wq.heap.size wq X → Ints X r (expZ (lgS a k)) → Calls Tryz.prog 174 #[.slice Aa 38 ca, r, .int .i64 (-1)] X (fun e w' => ∃ x, e = .returned x ∧ OwnInts w' wq.heap.size tI x (addk 10006 a (expZ (lgS a k))) ∧ Below wq.heap.size wq w') from fun X r hX hr => by
        have h := i_plus X (.slice Aa 38 ca) r a (expZ (lgS a k)) (-1) (HAQ.out.below hX) hr HL.out.2 (expZ_nums _) (by rw [HL.out.1, expZ_len]; exact Nat.le_refl _) (by rw [HL.out.1]; omega) (by omega) (by omega)
        rw [show (-1 : Int) % 10007 = 10006 from by decide] at h
        exact h.mono (by rintro e w5 ⟨r5, rfl, ho5, hb5⟩; exact ⟨r5, rfl, ho5.mono hX.size, hX.trans (hb5.mono hX.size)⟩))
      have HKE := Lib.hid (show ∀ X r, Below wq.heap.size wq X → Ints X r (addk 10006 a (expZ (lgS a k))) → Calls Tryz.prog 173 #[.agg #[.slice Af 37 cf, .slice Ay 37 cy], r, .func (.func 175) #[] #[.pointer (some ⟨bb, 0, none⟩)]] X (fun e w' => ∃ x, e = .returned x ∧ OwnInts w' wq.heap.size tI x (kpZ (lgP ((k : Int) + 1)) (addk 10006 a (expZ (lgS a k)))) ∧ Below wq.heap.size wq w') from fun X r hX hr => by
        have h := i_keep X (.slice Af 37 cf) r Ay 37 cy 175 (.pointer (some ⟨bb, 0, none⟩)) (lgP ((k : Int) + 1)) (addk 10006 a (expZ (lgS a k))) (HRQ.out.below hX) hr (by show (addTo _ _ _ _).length = 38; rw [addTo_len]; exact HL.out.1) (fun _ _ => by kernel_rfl) (fun V n hV => i_logMap1 V n ((k : Int) + 1) bb (((HKB.out.below hX HKB.out.lt).below hV (Nat.lt_of_lt_of_le HKB.out.lt hX.size)).cell 0))
        exact h.mono (by rintro e w5 ⟨r5, rfl, ho5, hb5⟩; exact ⟨r5, rfl, ho5.mono hX.size, hX.trans (hb5.mono hX.size)⟩))
      have q0 : wq.cell? ⟨w.heap.size, 0, none⟩ = some (.slice Af 37 cf) := HKQ.out.cell 0
      have q1 : wq.cell? ⟨w.heap.size, 1, none⟩ = some (.slice Ay 37 cy) := HKQ.out.cell 1
      go_upto_region 5 with fail
      go_cut [7] (fun v wx => OwnInts wx wq.heap.size tI v (kpZ (lgP ((k : Int) + 1)) (addk 10006 a (expZ (lgS a k)))) ∧ Below wq.heap.size wq wx)
      case first =>
        go_region_law (first
          | (go_simp; go_at_call 105; (with_reducible refine ((HEX.out _ ?_).mono ?_)); (first | exact Below.refl _ _ | exact (Below.refl _ _).drew); go_loud (rintro e w5 ⟨r5, rfl, ho5, hb5⟩; have HO5 := Lib.hid ho5; have HB5 := Lib.hid hb5; have m1 : w5.cell? ⟨w.heap.size, 0, none⟩ = some (.slice Af 37 cf) := (HKQ.out.below hb5 HKQ.out.lt).cell 0; have m2 : w5.cell? ⟨w.heap.size, 1, none⟩ = some (.slice Ay 37 cy) := (HKQ.out.below hb5 HKQ.out.lt).cell 1; clear ho5 hb5))
          | (go_simp; go_at_call 174; (with_reducible refine ((HPL.out _ _ ?_ ?_).mono ?_)); (first | exact HB5.out | exact HB5.out.drew); (exact HO5.out.ints); go_loud (rintro e w6 ⟨r6, rfl, ho6, hb6⟩; have HO6 := Lib.hid ho6; have HB6 := Lib.hid hb6; have m3 : w6.cell? ⟨w.heap.size, 0, none⟩ = some (.slice Af 37 cf) := (HKQ.out.below hb6 HKQ.out.lt).cell 0; have m4 : w6.cell? ⟨w.heap.size, 1, none⟩ = some (.slice Ay 37 cy) := (HKQ.out.below hb6 HKQ.out.lt).cell 1; clear ho6 hb6))
          | (go_simp; go_at_call 173; (with_reducible refine ((HKE.out _ _ ?_ ?_).mono ?_)); (first | exact HB6.out | exact HB6.out.drew); (exact HO6.out.ints); go_loud (rintro e w7 ⟨r7, rfl, ho7, hb7⟩; have HO7 := Lib.hid ho7; have HB7 := Lib.hid hb7; clear ho7 hb7)))
        all_goals
          go_wp2_with fail
          go_meet
          exact ⟨HO7.out, HB7.out⟩
      case rest =>
        rename World => w7
        obtain ⟨ho7, hb7⟩ := hcut
        have HO7 := Lib.hid ho7
        have HB7 := Lib.hid hb7
        clear ho7 hb7 q0 q1
        have HOQ := Lib.hid (HO.out.below HB7.out)
        have HPP := Lib.hid (i_plus w7 (.slice Ao 38 co) u7 (lgS a k) _ 1 HOQ.out.ints HO7.out.ints (lgS_nums _ _) (kpZ_nums (addTo_nums _ _ _ _)) (by rw [lgS_len, kpZ_len]; exact Nat.le_refl _) (by rw [lgS_len]; omega) (by omega) (by omega))
        rw [show (1 : Int) % 10007 = 1 from by decide, HS.out] at HPP
        have hwk : wrap64 ((k : Int) + 1 + 1) = (k : Int) + 1 + 1 := w64_in' _ (by omega)
        go_wp2_with (go_at_call 174; (with_reducible refine HPP.out.mono ?_); go_loud (rintro e w8 ⟨r8, rfl, ho8, hb8⟩; have HO8 := Lib.hid ho8; have HB8 := Lib.hid (HB7.out.trans (hb8.mono HB7.out.size)); have kb8 : w8.cell? ⟨bb, 0, none⟩ = some (.int .i64 ((k : Int) + 1)) := (HKB.out.below (HB7.out.trans (hb8.mono HB7.out.size)) HKB.out.lt).cell 0; have HK8 := Lib.hid (Blk.new w8 #[.int .i64 ((k : Int) + 1)] tI); have kc8 : (w8.alloc (.cells #[.int .i64 ((k : Int) + 1)] tI)).cell? ⟨w8.heap.size, 0, none⟩ = some (.int .i64 ((k : Int) + 1)) := HK8.out.cell 0; have kf8 := HK8.out.frozen 0; clear ho8 hb8))
        have HF := Lib.hid (below1 w8 (.cells #[.int .i64 ((k : Int) + 1 + 1)] tI))
        have HKN := Lib.hid (Blk.new w8 #[.int .i64 ((k : Int) + 1 + 1)] tI)
        have hW7 : W.heap.size ≤ w7.heap.size := Nat.le_trans HB.out.size HB7.out.size
        have hW8 : W.heap.size ≤ w8.heap.size := Nat.le_trans HB.out.size HB8.out.size
        go_roundw
        case rel =>
          exact ⟨k + 1, w8.heap.size, by omega, rfl, by simpa using HKN.out, hW8, (HO8.out.mono hW7).below HF.out, (fun c hc e => by have := HO8.out.1.lt c hc; omega), (HB.out.trans (HB8.out.mono HB.out.size)).trans (HF.out.mono hW8)⟩
        case measure =>
          have kn : (w8.alloc (.cells #[.int .i64 ((k : Int) + 1 + 1)] tI)).cell? ⟨w8.heap.size, 0, none⟩ = some (.int .i64 ((k : Int) + 1 + 1)) := HKN.out.cell 0
          have h1 : ptN (.pointer (some ⟨w8.heap.size, 0, none⟩)) (w8.alloc (.cells #[.int .i64 ((k : Int) + 1 + 1)] tI)) = k + 2 := by
            show (match (w8.alloc (.cells #[.int .i64 ((k : Int) + 1 + 1)] tI)).cell? ⟨w8.heap.size, 0, none⟩ with | some v => (intOf v).toNat | none => 0) = k + 2
            rw [kn]
            show ((k : Int) + 1 + 1).toNat = k + 2
            omega
          have h0 := HM0.out
          first
            | (rw [h1, h0]; omega)
            | (simp only [h1, h0]; omega)
    · have hk6' : k = 6 := by omega
      subst hk6'
      go_wp2_with fail
      go_ret
      exact ⟨_, rfl, HO.out.mono HBW.out.size, HBW.out.trans (HB.out.mono HBW.out.size)⟩
set_option maxHeartbeats 2000000 in
theorem i_LogMap0 (w : World) (v : Value) (a : List Int) (h1 : Ints w v a) (l1 : a.length = 38) (n1 : Nums a) (a0 : a.getD 0 0 = 1) :
    Calls Tryz.prog 26 #[v] w fun e w' => ∃ x, e = .returned (.tuple #[x, .int .i64 0]) ∧ OwnInts w' w.heap.size tI x (lgZ a) ∧ Below w.heap.size w w' := by
  have hc : chrC a = 0 := by
    unfold chrC
    rw [if_pos (show mapB a = true from by unfold mapB; rw [Bool.and_eq_true]; exact ⟨by simp [l1], nums_iff.2 n1⟩), if_pos a0]
  have HCH := Lib.hid (i_checkCharacter w v a h1)
  rw [hc] at HCH
  have HA := Lib.hid h1
  obtain ⟨A, c, rfl, -, -, -⟩ := h1.open_
  have HMM := Lib.hid (fun W Af cf Bp vp (hR : Rows W (.slice Af 37 cf) (T6n.map up)) (hP : FrC W Bp vp) (g : Ints W (.slice A a.length c) a) => i_logMap W vp _ Af cf Bp a hR hP g l1 n1)
  clear h1 hc l1 n1 a0
  go_enter Tryz.func26, Tryz.ntmps26
  go_wp2_with (first
    | (go_at_call 90; refine HCH.out.mono ?_; rintro e w0 ⟨rfl, rfl⟩)
    | (go_at_call 81; go_loud (refine (i_newForms _).mono ?_; rintro e w1 ⟨f, rfl, hf, hb1⟩; obtain ⟨Af, cf, Ay, cy, rfl, hrf, hfc⟩ := hf.openC; have HRF := Lib.hid hrf; have HFC := Lib.hid hfc; have HB1 := Lib.hid hb1; clear hf hrf hfc hb1))
    | (go_at_call 100; go_loud (refine (HMM.out _ _ _ _ _ HRF.out HFC.out (HA.out.below HB1.out)).mono ?_; rintro e w3 ⟨x3, rfl, ho3, hb3⟩; have HO3 := Lib.hid ho3; have HB3 := Lib.hid hb3; clear ho3 hb3)))
  go_ret2
  exact ⟨_, rfl, HO3.out.mono HB1.out.size, HB1.out.trans (HB3.out.mono HB1.out.size)⟩
set_option maxHeartbeats 2000000 in
theorem i_ScaleMap0 (w : World) (v : Value) (a : List Int) (k : Int) (h1 : Ints w v a) (l1 : a.length = 38) (n1 : Nums a) (k0 : 0 ≤ k) (k1 : k ≤ 10006) :
    Calls Tryz.prog 27 #[v, .int .i64 k] w fun e w' => ∃ x, e = .returned (.tuple #[x, .int .i64 0]) ∧ OwnInts w' w.heap.size tI x (scZ a k) ∧ Below w.heap.size w w' := by
  have hm : mapB a = true := by unfold mapB; rw [Bool.and_eq_true]; exact ⟨by simp [l1], nums_iff.2 n1⟩
  have HM := Lib.hid (i_IsMap w v a h1)
  rw [hm] at HM
  have HNK := Lib.hid (fun X => i_IsNumber k X)
  have hn : isNum k = true := by unfold isNum; rw [inR_iff]; omega
  simp only [hn] at HNK
  have HA := Lib.hid h1
  obtain ⟨A, c, rfl, -, -, -⟩ := h1.open_
  have HMM := Lib.hid (fun W Af cf Bm m d (hR : Rows W (.slice Af 37 cf) (T6n.map up)) (g : Ints W (.slice A a.length c) a) => i_scaleMap W (.slice Af 37 cf) _ Bm m d a k hR g l1 n1 k0 k1)
  clear h1 hm l1 n1 hn
  go_enter Tryz.func27, Tryz.ntmps27
  go_wp2_with (first
    | (go_at_call 101; refine HM.out.mono ?_; rintro e w0 ⟨rfl, rfl⟩)
    | (go_at_call 102; refine (HNK.out _).mono ?_; rintro e w0 ⟨rfl, rfl⟩)
    | (go_at_call 81; go_loud (refine (i_newForms _).mono ?_; rintro e w1 ⟨f, rfl, hf, hb1⟩; obtain ⟨Af, cf, Ay, cy, rfl, hrf, hfc⟩ := hf.openC; have HRF := Lib.hid hrf; have HB1 := Lib.hid hb1; clear hf hrf hfc hb1))
    | (go_at_call 97; go_loud (refine (HMM.out _ _ _ _ _ _ HRF.out (HA.out.below HB1.out)).mono ?_; rintro e w3 ⟨x3, rfl, ho3, hb3⟩; have HO3 := Lib.hid ho3; have HB3 := Lib.hid hb3; clear ho3 hb3)))
  go_ret2
  exact ⟨_, rfl, HO3.out.mono HB1.out.size, HB1.out.trans (HB3.out.mono HB1.out.size)⟩
set_option maxHeartbeats 1000000 in
theorem i_AddMaps0 (w : World) (v v' : Value) (a b : List Int) (h1 : Ints w v a) (l1 : a.length = 38) (n1 : Nums a) (h2 : Ints w v' b) (l2 : b.length = 38) (n2 : Nums b) :
    Calls Tryz.prog 104 #[v, v'] w fun e w' => ∃ x, e = .returned (.tuple #[x, .int .i64 0]) ∧ OwnInts w' w.heap.size tI x (addk 1 a b) ∧ Below w.heap.size w w' := by
  have hm : mapB a = true := by unfold mapB; rw [Bool.and_eq_true]; exact ⟨by simp [l1], nums_iff.2 n1⟩
  have hm2 : mapB b = true := by unfold mapB; rw [Bool.and_eq_true]; exact ⟨by simp [l2], nums_iff.2 n2⟩
  have HM := Lib.hid (i_IsMap w v a h1)
  have HM2 := Lib.hid (i_IsMap w v' b h2)
  rw [hm] at HM
  rw [hm2] at HM2
  have HP := Lib.hid (i_plus w v v' a b 1 h1 h2 n1 n2 (by omega) (by omega) (by omega) (by omega))
  rw [show (1 : Int) % 10007 = 1 from by decide] at HP
  obtain ⟨A, c, rfl, -, -, -⟩ := h1.open_
  obtain ⟨A', c', rfl, -, -, -⟩ := h2.open_
  clear h1 h2 hm hm2 l1 l2 n1 n2
  go_enter Tryz.func104, Tryz.ntmps104
  go_wp2_with (first
    | (go_at_call 101; (with_reducible refine HM.out.mono ?_); rintro e w0 ⟨rfl, rfl⟩)
    | (go_at_call 101; (with_reducible refine HM2.out.mono ?_); rintro e w0 ⟨rfl, rfl⟩)
    | (go_at_call 174; go_loud (refine HP.out.mono ?_; rintro e w3 ⟨x3, rfl, ho3, hb3⟩; have HO3 := Lib.hid ho3; have HB3 := Lib.hid hb3; clear ho3 hb3)))
  go_ret2
  exact ⟨_, rfl, HO3.out, HB3.out⟩
set_option maxHeartbeats 1000000 in
theorem i_MultiplyMap0 (w : World) (v : Value) (a : List Int) (k : Int) (h1 : Ints w v a) (l1 : a.length = 38) (n1 : Nums a) (k0 : 0 ≤ k) (k1 : k ≤ 10006) :
    Calls Tryz.prog 103 #[v, .int .i64 k] w fun e w' => ∃ x, e = .returned (.tuple #[x, .int .i64 0]) ∧ OwnInts w' w.heap.size tI x (scl k a) ∧ Below w.heap.size w w' := by
  have hm : mapB a = true := by unfold mapB; rw [Bool.and_eq_true]; exact ⟨by simp [l1], nums_iff.2 n1⟩
  have HM := Lib.hid (i_IsMap w v a h1)
  rw [hm] at HM
  have HNK := Lib.hid (fun X => i_IsNumber k X)
  have hn : isNum k = true := by unfold isNum; rw [inR_iff]; omega
  simp only [hn] at HNK
  have HP := Lib.hid (i_scaled w v a k h1 n1 (by omega) (by omega) (by omega))
  rw [show k % 10007 = k by omega] at HP
  obtain ⟨A, c, rfl, -, -, -⟩ := h1.open_
  clear h1 hm l1 n1 hn
  go_enter Tryz.func103, Tryz.ntmps103
  go_wp2_with (first
    | (go_at_call 101; refine HM.out.mono ?_; rintro e w0 ⟨rfl, rfl⟩)
    | (go_at_call 102; refine (HNK.out _).mono ?_; rintro e w0 ⟨rfl, rfl⟩)
    | (go_at_call 177; go_loud (refine HP.out.mono ?_; rintro e w3 ⟨x3, rfl, ho3, hb3⟩; have HO3 := Lib.hid ho3; have HB3 := Lib.hid hb3; clear ho3 hb3)))
  go_ret2
  exact ⟨_, rfl, HO3.out, HB3.out⟩
end Go.Proofs.YtcbgopmonbgmgaaGreat

