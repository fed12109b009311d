import Derived.Test.YtofabikjjkapmaaGreatSm9
import Derived.Test.YtofabikjjkapmaaGreatSm28
import Derived.Test.YtofabikjjkapmaaGreatSm5
import Derived.Test.YtofabikjjkapmaaGreatSm26
import Derived.Test.YtofabikjjkapmaaGreatSm24
import Derived.Test.YtofabikjjkapmaaGreatSm19
import Derived.Test.YtofabikjjkapmaaGreatSm22
set_option maxRecDepth 100000
set_option linter.unusedVariables false
set_option linter.unusedSimpArgs false
namespace Go.Proofs.YtofabikjjkapmaaGreat
open Go.RowKit
def evenN (x : Nat) : Bool := Nat.beq (x % 2) 0
def evF (t fr : List Nat) : Nat -> List (List Nat) -> Bool
 | _, [] => false
 | i, r :: rs => bif eqN r fr then evenN (t.getD i 0) else evF t fr (i + 1) rs
def evN (t : List Nat) : Bool := match freeO t, rootedO t with
 | some fr, some rs => evF t fr 0 rs
 | _, _ => false
theorem evF_step {t fr : List Nat} {xs : List (List Nat)} {k : Nat} {q : List Nat} (hq : xs[k]? = some q) (i : Nat) : evF t fr i (xs.drop k) = bif eqN q fr then evenN (t.getD i 0) else evF t fr (i + 1) (xs.drop (k + 1)) := by
 have : xs.drop k = q :: xs.drop (k + 1) := by
  obtain ⟨hk, rfl⟩ := List.getElem?_eq_some_iff.1 hq
  exact List.drop_eq_getElem_cons hk
 rw [this, evF]
theorem even_tmod (a : Nat) : ((a : Int) % 2 == 0) = evenN a := by
 unfold evenN
 cases h : Nat.beq (a % 2) 0 with
 | true => have := Nat.eq_of_beq_eq_true h; simp; omega
 | false => have := Nat.ne_of_beq_eq_false h; simp; omega
theorem eqN_dec2 (q t : List Nat) : eqN q t = decide (up q = up t) := by
 by_cases e : q = t
 · rw [eqN_iff.2 e, e]; exact (decide_eq_true rfl).symm
 · have h1 : eqN q t = false := by
    cases hh : eqN q t with
    | true => exact absurd (eqN_iff.1 hh) e
    | false => rfl
   rw [h1]; exact (decide_eq_false fun h => e (up_inj h)).symm
set_option maxHeartbeats 4000000 in
theorem i_isEvenRoot (w : World) (v : Value) (t fr : List Nat) (rs : List (List Nat)) (ha : Ints w v (up t)) (ht : lvl t = true) (h8 : t.length <= 8) (hl : ∀ l ∈ t, l <= 1000000) (hfr : freeO t = some fr) (hrs : rootedO t = some rs) (hlen : rs.length = t.length) :
  Calls Tryz.prog 94 #[v] w fun e w' => e = .returned (.bool (evN t)) /\ Below w.heap.size w w' := by
 have HA := Lib.hid ha
 have HFF := Lib.hid (fun W h => i_freeForm W v t fr h ht h8 hl hfr)
 have HRT := Lib.hid (fun W h => i_rooted W v t rs h ht h8 hl hrs)
 obtain ⟨EE, hEE⟩ : ∃ EE, EE = evN t := ⟨_, rfl⟩
 rw [<- hEE]
 have HEE := Lib.hid (show EE = evF t fr 0 rs from by rw [hEE]; unfold evN; rw [hfr, hrs])
 obtain ⟨A, c, rfl, l1, l2, h3⟩ := ha.open_
 rw [up_len] at l1 h3 HA HFF HRT ⊢
 have H3 := Lib.hid h3
 clear ha ht hl hfr hrs hEE h3
 go_enter Tryz.func94, Tryz.ntmps94
 go_wp2_with (first
  | (go_at_call 93; refine (HFF.out _ HA.out).mono ?_; rintro e w1 ⟨x1, rfl, ho1, hb1⟩; obtain ⟨A1, c1, he1, -, -, -⟩ := ho1.ints.open_; rw [up_len] at he1; subst he1; have HO1 := Lib.hid ho1; have HB1 := Lib.hid hb1; clear ho1 hb1)
  | (go_at_call 163; refine (HRT.out _ (HA.out.below HB1.out)).mono ?_; rintro e w2 ⟨x2, rfl, hl2, hb2⟩; obtain ⟨A2, c2, he2, -, -, hr2⟩ := hl2.rows.open_; rw [List.length_map] at he2 hr2; subst he2; have HR2 := Lib.hid hr2; have HO2 := Lib.hid (HO1.out.below hb2); have HB2 := Lib.hid (HB1.out.trans (hb2.mono HB1.out.size)); clear hl2 hb2 hr2))
 go_loopw [11] (fun x wr => ∃ i d : Nat, i <= rs.length /\ x = .int .i64 i /\ Hid (evF t fr i (rs.drop i) = EE) /\ wr = w2.drewN d) (fun x _ => rs.length - (intOf x).toNat)
 case atStart => exact ⟨0, 0, Nat.zero_le _, rfl, HEE.out.symm, rfl⟩
 case round =>
  obtain ⟨i, d, hi, rfl, HE, rfl⟩ := hrel
  by_cases hlt : i < rs.length
  · obtain ⟨ad, u, zs, rfl, hz, hu, hc⟩ := HR2.out i hlt
    have hq : rs[i]? = some (rs[i]'hlt) := List.getElem?_eq_getElem _
    have hzb : zs = up (rs[i]'hlt) := by rw [List.getElem?_map, hq] at hz; injection hz with hz; exact hz.symm
    subst hzb
    obtain ⟨at', z, rfl, hz2, -, hct⟩ := H3.out i (by omega)
    obtain ⟨a, hla, rfl⟩ := up_getD hz2
    have hga : t.getD i 0 = a := by simp [List.getD, hla]
    have hcw : w2.cell? (at'.add i) = some (.int .i64 (a : Int)) := keepCell HB2.out hct
    have he := HE.out
    rw [evF_step hq, hga] at he
    have hed := eqN_dec2 (rs[i]'hlt) fr
    generalize rs[i]'hlt = q at *
    obtain ⟨A5, c5, rfl, -, -, -⟩ := hu.open_
    rw [up_len] at hc hu
    have hsm := lib_Equal (w2.drewN d) _ _ (up q) (up fr) (hu.drewN d) (HO2.out.ints.drewN d)
    rw [<- hed] at hsm
    have htm := even_tmod a
    have hii : (i : Int) < (rs.length : Int) := by omega
    have hit : (i : Int) < (t.length : Int) := by omega
    clear hed hq hz hz2 hct hla hga hu HE
    cases hb : eqN q fr with
    | true =>
     rw [hb] at he hsm
     have HE := Lib.hid (show EE = ((a : Int) % 2 == 0) from by rw [htm]; exact he.symm)
     have HSM := Lib.hid hsm
     clear he hsm hb htm
     go_wp2_with (go_at_call 87; refine HSM.out.mono ?_; rintro e w6 ⟨rfl, n6, rfl⟩)
     go_ret
     exact ⟨ret_bool HE.out.symm, below_drewN HB2.out _⟩
    | false =>
     rw [hb] at he hsm
     have HE := Lib.hid (show evF t fr (i + 1) (rs.drop (i + 1)) = EE from he)
     have HSM := Lib.hid hsm
     clear he hsm hb htm
     go_wp2_with (go_at_call 87; refine HSM.out.mono ?_; rintro e w6 ⟨rfl, n6, rfl⟩)
     go_roundw
     case rel => exact ⟨i + 1, _, by omega, by go_num, HE.out, by first | rfl | exact World.drewN_drewN ..⟩
     case measure => simp [intOf]; omega
  · have hil : i = rs.length := by omega
    have HF := Lib.hid (show EE = false from by rw [<- HE.out, hil, List.drop_length, evF])
    go_wp2_with fail
    go_ret
    exact ⟨ret_bool HF.out.symm, below_drewN HB2.out d⟩
def sgF (t fo : List Nat) : Nat -> Nat -> Option Bool
 | 0, _ => some false
 | f + 1, n => match turV 9 t n with
  | none => none
  | some q => bif eqN q fo && evenN (t.getD n 0) then some true else sgF t fo f (n + 1)
theorem sgF_succ {t fo : List Nat} {f n : Nat} {r : Bool} (h : sgF t fo (f + 1) n = some r) : ∃ q, turV 9 t n = some q /\ (((eqN q fo && evenN (t.getD n 0)) = true /\ r = true) \/ ((eqN q fo && evenN (t.getD n 0)) = false /\ sgF t fo f (n + 1) = some r)) := by
 rw [sgF] at h
 cases hq : turV 9 t n with
 | none => rw [hq] at h; cases h
 | some q =>
  rw [hq] at h
  simp only at h
  cases hb : (eqN q fo && evenN (t.getD n 0)) with
  | true => rw [hb] at h; injection h with h; exact ⟨q, rfl, .inl ⟨hb, h.symm⟩⟩
  | false => rw [hb] at h; exact ⟨q, rfl, .inr ⟨hb, h⟩⟩
def sgZ (b : Bool) : Int := if b then 1 else -1
set_option maxHeartbeats 8000000 in
theorem s_l12Sign (w : World) (v : Value) (t fo : List Nat) (k : Nat) (ys : List CT) (r : Bool) (ha : Ints w v (up t)) (h8 : t.length <= 8) (hr : rooV t t.length = some ((fo, k) :: ys)) (hs : sgF t fo t.length 0 = some r) :
  Calls Tryz.prog 221 #[v] w fun e w' => e = .returned (.int .i64 (sgZ r)) /\ Below w.heap.size w w' := by
 have HA := Lib.hid ha
 have HR := Lib.hid (fun W h => s_l04Roots W v t _ h (by omega) hr)
 have HS := Lib.hid hs
 obtain ⟨Z, hZ⟩ : ∃ Z, Z = sgZ r := ⟨_, rfl⟩
 rw [<- hZ]
 have HZ := Lib.hid hZ
 obtain ⟨A, c, rfl, l1, l2, h3⟩ := ha.open_
 rw [up_len] at l1 h3 HA HR ⊢
 have H3 := Lib.hid h3
 clear ha hr hs hZ h3
 go_enter Tryz.func221, Tryz.ntmps221
 go_wp2_with (go_at_call 180; go_loud (refine (HR.out _ HA.out).mono ?_; rintro e w1 ⟨x1, rfl, ho1, hb1⟩; obtain ⟨g, cap, A1, c1, he, hc1, -, hr1⟩ := ho1.at_ (k := 0) rfl; subst he; have hc1' : w1.cell? ⟨g, 0, none⟩ = some (.slice A1 fo.length c1) := hc1; have HF1 := Lib.hid hr1; have HB1 := Lib.hid hb1; have hp1 : 0 < ((fo, k) :: ys).length := (by simp); clear hc1 ho1 hb1 hr1))
 clear hc1' hp1
 go_loopw [4] (fun x wr => ∃ n : Nat, n <= t.length /\ x = .int .i64 n /\ Hid (sgF t fo (t.length - n) n = some r) /\ Below w1.heap.size w1 wr) (fun x _ => t.length - (intOf x).toNat)
 case atStart => exact ⟨0, Nat.zero_le _, rfl, HS.out, Below.refl _ _⟩
 case round =>
  obtain ⟨n, hn, rfl, HD, hb⟩ := hrel
  have HB := Lib.hid hb
  clear hb
  by_cases hlt : n < t.length
  · have hd := HD.out
    rw [show t.length - n = (t.length - (n + 1)) + 1 by omega] at hd
    obtain ⟨q, hq, hcs⟩ := sgF_succ hd
    obtain ⟨ad, z, rfl, hz, -, hc⟩ := H3.out n hlt
    obtain ⟨a, hla, rfl⟩ := up_getD hz
    have hga : t.getD n 0 = a := by simp [List.getD, hla]
    rw [hga, <- even_tmod, eqN_dec2] at hcs
    have HQ := Lib.hid hq
    have HCS := Lib.hid hcs
    have HBW := Lib.hid (HB1.out.trans (HB.out.mono HB1.out.size))
    have HC := Lib.hid hc
    have HSM := Lib.hid (fun W y (hy : Ints W y (up q)) (h : Ints W (.slice A1 fo.length c1) (up fo)) => s_l01Same W y (.slice A1 fo.length c1) (up q) (up fo) hy h)
    have hii : (n : Int) < (t.length : Int) := by omega
    clear hd hq hcs hz hla hga hc HD
    generalize decide (up q = up fo) = dd at HCS HSM
    cases dd with
    | false =>
     have HD := Lib.hid (show sgF t fo (t.length - (n + 1)) (n + 1) = some r from by
      rcases HCS.out with ⟨h, -⟩ | ⟨-, h⟩
      · cases h
      · exact h)
     go_wp2_with (first
      | (go_at_call 227; (with_reducible refine (s_l04Turn 9 _ _ t q n (HA.out.below HBW.out) HQ.out).mono ?_); rintro e w8 ⟨x8, rfl, ho8, hb8⟩; have HO8 := Lib.hid ho8; have HB8 := Lib.hid (HB.out.trans (hb8.mono HB.out.size)); clear ho8 hb8)
      | (go_at_call 122; (with_reducible refine (HSM.out _ _ HO8.out.ints (HF1.out.below HB8.out).ints).mono ?_); rintro e w9 ⟨rfl, n9, rfl⟩))
     go_roundw
     case rel => exact ⟨n + 1, by omega, by go_num, HD.out, below_drewN HB8.out n9⟩
     case measure => simp [intOf]; omega
    | true =>
     rcases HCS.out with ⟨h, hr⟩ | ⟨h, hD⟩
     · have HZ1 := Lib.hid (show Z = 1 from by rw [HZ.out, hr]; rfl)
       have hev : ((a : Int) % 2 == 0) = true := by simpa using h
       clear h hr
       go_wp2_with (first
        | (go_at_call 227; (with_reducible refine (s_l04Turn 9 _ _ t q n (HA.out.below HBW.out) HQ.out).mono ?_); rintro e w8 ⟨x8, rfl, ho8, hb8⟩; have HO8 := Lib.hid ho8; have HB8 := Lib.hid (HB.out.trans (hb8.mono HB.out.size)); clear ho8 hb8)
        | (go_at_call 122; (with_reducible refine (HSM.out _ _ HO8.out.ints (HF1.out.below HB8.out).ints).mono ?_); rintro e w9 ⟨rfl, n9, rfl⟩; have hcw := keepCell (HB1.out.trans (HB8.out.mono HB1.out.size)) HC.out))
       go_ret
       exact ⟨ret_i64 HZ1.out.symm, below_drewN (HB1.out.trans (HB8.out.mono HB1.out.size)) n9⟩
     · have HD := Lib.hid hD
       have hev : ((a : Int) % 2 == 0) = false := by simpa using h
       clear h hD
       go_wp2_with (first
        | (go_at_call 227; (with_reducible refine (s_l04Turn 9 _ _ t q n (HA.out.below HBW.out) HQ.out).mono ?_); rintro e w8 ⟨x8, rfl, ho8, hb8⟩; have HO8 := Lib.hid ho8; have HB8 := Lib.hid (HB.out.trans (hb8.mono HB.out.size)); clear ho8 hb8)
        | (go_at_call 122; (with_reducible refine (HSM.out _ _ HO8.out.ints (HF1.out.below HB8.out).ints).mono ?_); rintro e w9 ⟨rfl, n9, rfl⟩; have hcw := keepCell (HB1.out.trans (HB8.out.mono HB1.out.size)) HC.out))
       go_roundw
       case rel => exact ⟨n + 1, by omega, by go_num, HD.out, below_drewN HB8.out n9⟩
       case measure => simp [intOf]; omega
  · have hnl : n = t.length := by omega
    have HZ1 := Lib.hid (show Z = -1 from by
     have h := HD.out
     rw [hnl, Nat.sub_self, sgF] at h
     injection h with h
     rw [HZ.out, <- h]; rfl)
    go_wp2_with fail
    go_ret
    exact ⟨ret_i64 HZ1.out.symm, HB1.out.trans (HB.out.mono HB1.out.size)⟩
def C6 : List (List Nat) := [[0], [0, 1, 2], [0, 1, 2, 2], [0, 1, 2, 3, 4], [0, 1, 2, 3, 3], [0, 1, 2, 2, 2], [0, 1, 2, 3, 4, 4], [0, 1, 2, 3, 4, 3], [0, 1, 2, 3, 3, 3], [0, 1, 2, 2, 2, 2]]
theorem C6_eq : allG cndN 6 = C6 := eqLL_eq (by decide +kernel)
def T6 : List (List Nat) := allG treesN 6
theorem T6_len : T6.length = 37 := by decide +kernel
def hIdx (t : List Nat) : Nat := match freeO t with
 | some fr => idxN C6 fr
 | none => 0
def hamV (zs : List Int) (t : List Nat) : Int := match hIdx t with
 | 0 => 0
 | i + 1 => if evN t then zs.getD i 0 else (-(zs.getD i 0)) % 10007
def hamZ (zs : List Int) : List Int := 0 :: T6.map (hamV zs)
def hamOk (zs : List Int) : Bool := decide (zs.length = 10) && nums zs
def hamR (zs : List Int) : List Int := if hamOk zs then hamZ zs else []
def hamC (zs : List Int) : Int := if hamOk zs then 0 else 2
def okH (t : List Nat) : Bool := lvl t && (Nat.ble t.length 8 && (t.all fun l => Nat.ble l 8)) && (match freeO t, rootedO t, rooV t t.length with
 | some fr, some rs, some ((fo, _) :: _) => eqN fr fo && (Nat.beq rs.length t.length && (Nat.beq (idxN C6 fr) (fndN C6 fo) && (Nat.ble (idxN C6 fr) 10 &&
   (Nat.beq (idxN C6 fr) 0 || eqB (sgF t fo t.length 0) (evN t)))))
 | _, _, _ => false)
theorem okH_6 : T6.all okH = true := by decide +kernel
theorem eqB_iff {o : Option Bool} {b : Bool} (h : eqB o b = true) : o = some b := by
 cases o with
 | none => cases h
 | some a => cases a <;> cases b <;> first | rfl | cases h
theorem okH_at {t : List Nat} (ht : t ∈ T6) : lvl t = true /\ t.length <= 8 /\ (∀ l ∈ t, l <= 1000000) /\ ∃ fr rs k ys, freeO t = some fr /\ rootedO t = some rs /\ rs.length = t.length /\ rooV t t.length = some ((fr, k) :: ys) /\
  fndN C6 fr = idxN C6 fr /\ idxN C6 fr <= 10 /\ (idxN C6 fr ≠ 0 -> sgF t fr t.length 0 = some (evN t)) := by
 have h := okH_6
 rw [List.all_eq_true] at h
 have h1 := h t ht
 unfold okH at h1
 simp only [Bool.and_eq_true] at h1
 obtain ⟨⟨h2, h3, h4⟩, h5⟩ := h1
 refine ⟨h2, Nat.le_of_ble_eq_true h3, fun l hl => ?_, ?_⟩
 · rw [List.all_eq_true] at h4
   have := Nat.le_of_ble_eq_true (h4 l hl); omega
 · cases hf : freeO t with
   | none => rw [hf] at h5; cases h5
   | some fr =>
    cases hr : rootedO t with
    | none => rw [hf, hr] at h5; cases h5
    | some rs =>
     cases hv : rooV t t.length with
     | none => rw [hf, hr, hv] at h5; cases h5
     | some xs =>
      cases xs with
      | nil => rw [hf, hr, hv] at h5; cases h5
      | cons x ys =>
       obtain ⟨fo, k⟩ := x
       rw [hf, hr, hv] at h5
       simp only [Bool.and_eq_true, Bool.or_eq_true] at h5
       obtain ⟨a1, a2, a3, a4, a5⟩ := h5
       have e := eqN_iff.1 a1
       subst e
       refine ⟨fr, rs, k, ys, rfl, rfl, Nat.eq_of_beq_eq_true a2, rfl, (Nat.eq_of_beq_eq_true a3).symm, Nat.le_of_ble_eq_true a4, fun hne => ?_⟩
       rcases a5 with a5 | a5
       · exact absurd (Nat.eq_of_beq_eq_true a5) hne
       · exact eqB_iff a5
theorem hamV_is (zs : List Int) {t fr : List Nat} (hf : freeO t = some fr) : hamV zs t = match idxN C6 fr with
 | 0 => 0
 | i + 1 => if evN t then zs.getD i 0 else (-(zs.getD i 0)) % 10007 := by
 unfold hamV hIdx
 rw [hf]
theorem own_snoc {w : World} {B : Nat} {v : Value} {l : List Int} {z : Int} (h : ∀ y ∈ l, In64 y) (hz : In64 z) (ho : Own w B tI v (ints l ++ [.int .i64 z])) : OwnInts w B tI v (l ++ [z]) := by
 refine ⟨by simpa [ints] using ho, fun y hy => ?_⟩
 rcases List.mem_append.1 hy with hy | hy
 · exact h y hy
 · simp at hy; subst hy; exact hz
theorem LA.keptLt {w w' : World} {B g : Nat} {v : Value} {xss : List (List Int)} (h : LA w B v xss) (hg : w.grownBy w' (some g)) (hlt : g < B) : LA w' B v xss := by
 obtain ⟨vs, h1, h2, h3⟩ := h
 have ne : ∀ u : Value, (∀ b, u.ownBlock = some b -> B <= b) -> u.ownBlock = none \/ u.ownBlock ≠ some g := fun u hu => by
  cases hb : u.ownBlock with
  | none => exact .inl rfl
  | some b => exact .inr fun e => by injection e with e; have := hu b hb; omega
 exact ⟨vs, h1.kept hg (ne v h1.ge), ⟨h2.1, fun k u zs hu hz => ⟨(h2.2 k u zs hu hz).1.kept hg (ne u (h2.2 k u zs hu hz).1.ge), (h2.2 k u zs hu hz).2⟩⟩, h3⟩
set_option maxHeartbeats 8000000 in
theorem i_HamiltonianOf (w : World) (v : Value) (zs : List Int) (ha : Ints w v zs) :
  Calls Tryz.prog 43 #[v] w fun e w' => ∃ x, e = .returned (.tuple #[x, .int .i64 (hamC zs)]) /\ OwnInts w' w.heap.size tI x (hamR zs) /\ Below w.heap.size w w' := by
 have HA := Lib.hid ha
 obtain ⟨A, c, rfl, l1, l2, h3⟩ := ha.open_
 have H3 := Lib.hid h3
 clear ha h3
 by_cases h10 : zs.length = 10
 · have hd : ((zs.length : Int) != 10) = false := by simp [h10]
   have H10 := Lib.hid h10
   cases hn : nums zs with
   | false =>
    have HC := Lib.hid (show hamC zs = 2 from by simp [hamC, hamOk, hn])
    have HR := Lib.hid (show hamR zs = [] from by simp [hamR, hamOk, hn])
    rw [HC.out, HR.out]
    have HNA := Lib.hid (fun W (h : Ints W (.slice A zs.length c) zs) => show Calls Tryz.prog 90 #[.slice A zs.length c] W fun e w' => e = .returned (.bool false) /\ W = w' from by have h2 := i_areNumbers W _ zs h; rw [hn] at h2; exact h2)
    clear hn h10
    go_enter Tryz.func43, Tryz.ntmps43
    go_wp2_with (go_at_call 90; refine (HNA.out _ HA.out).mono ?_; rintro e w1 ⟨rfl, rfl⟩)
    go_ret2
    exact ⟨_, rfl, OwnInts.nil _ _ _, Below.refl _ _⟩
   | true =>
    have HC := Lib.hid (show hamC zs = 0 from by simp [hamC, hamOk, hn, h10])
    have HR := Lib.hid (show hamR zs = hamZ zs from by simp [hamR, hamOk, hn, h10])
    rw [HC.out, HR.out]
    have HNU := Lib.hid (nums_iff.1 hn)
    have HNA := Lib.hid (fun W (h : Ints W (.slice A zs.length c) zs) => show Calls Tryz.prog 90 #[.slice A zs.length c] W fun e w' => e = .returned (.bool true) /\ W = w' from by have h2 := i_areNumbers W _ zs h; rw [hn] at h2; exact h2)
    clear hn h10
    have OL := Lib.hid (show OwnInts (w.alloc (.cells #[.int .i64 0] tI)) w.heap.size tI (.slice (some ⟨w.heap.size, 0, none⟩) 1 1) (0 :: (T6.take 0).map (hamV zs)) from ⟨own_lit w tI [.int .i64 0] (by simp [maxLen]), fun z hz => by simp at hz; subst hz; unfold In64; omega⟩)
    go_enter Tryz.func43, Tryz.ntmps43
    go_wp2_with (first
     | (go_at_call 90; refine (HNA.out _ HA.out).mono ?_; rintro e w1 ⟨rfl, rfl⟩)
     | (go_at_call 55; go_loud (refine (i_allConditions _).mono ?_; rintro e w2 ⟨x2, rfl, hl2, hb2⟩; rw [C6_eq] at hl2; have HSZ2 := Lib.hid (show w.heap.size + 1 <= w2.heap.size from by have := hb2.size; simpa using this); have HB2 := Lib.hid ((below1 w (.cells #[.int .i64 0] tI)).trans (hb2.mono (by simp))); have OL2 := Lib.hid (OL.out.below hb2); have HL2 := Lib.hid hl2; clear hl2 hb2))
     | (go_at_call 91; go_loud (refine (i_treesTo _ 6 (by omega)).mono ?_; rintro e w3 ⟨x3, rfl, hl3, hb3⟩; rw [show allG treesN 6 = T6 from rfl] at hl3; obtain ⟨A3, c3, he3, -, -, -⟩ := hl3.rows.open_; rw [List.length_map, T6_len] at he3; subst he3; obtain ⟨A2, c2, he2, -, -, -⟩ := HL2.out.rows.open_; rw [List.length_map, show C6.length = 10 from rfl] at he2; subst he2; have HLTB := Lib.hid (show w.heap.size < w2.heap.size from HSZ2.out); have HQ3 := Lib.hid hl3; have HB3 := Lib.hid (HB2.out.trans (hb3.mono HB2.out.size)); have OL3 := Lib.hid (OL2.out.below hb3); have HL3 := Lib.hid (HL2.out.below hb3); clear hl3 hb3)))
    go_loopw [4, 21] (fun o x wr => ∃ i : Nat, i <= 37 /\ x = .int .i64 i /\ OwnInts wr w.heap.size tI o (0 :: (T6.take i).map (hamV zs)) /\ Grow w3 wr (.slice (some ⟨w.heap.size, 0, none⟩) 1 1) o) (fun _ x _ => 37 - (intOf x).toNat)
    case atStart => exact ⟨0, Nat.zero_le _, rfl, OL3.out, Grow.refl _ _⟩
    case round =>
     obtain ⟨i, hi, rfl, ho, hg⟩ := hrel
     obtain ⟨Ao, co, rfl, -, -⟩ := ho.1.cells.open_
     have HOL := Lib.hid (show (ints (0 :: (T6.take i).map (hamV zs))).length <= 1000 from by rw [ints_len, List.length_cons, List.length_map, List.length_take]; omega)
     generalize hnn : (ints (0 :: (T6.take i).map (hamV zs))).length = nn at ho hg ⊢
     have HNN := Lib.hid hnn
     have HO := Lib.hid ho
     have HG := Lib.hid hg
     have HB := Lib.hid (hg.below HB3.out HB3.out.size (fun b hb => by simp [Value.ownBlock] at hb; omega))
     clear hnn
     have HLC := Lib.hid (HL3.out.keptLt hg.1 (by simp))
     have HLT := Lib.hid (HQ3.out.keptLt hg.1 HLTB.out)
     clear ho hg
     by_cases hlt : i < 37
     · have hq : T6[i]? = some (T6[i]'(by rw [T6_len]; exact hlt)) := List.getElem?_eq_getElem _
       have hmem : T6[i]'(by rw [T6_len]; exact hlt) ∈ T6 := List.getElem_mem _
       obtain ⟨htl, ht8, htm, fr, rs, kk, ys, hf, hrs, hrl, hro, hfn, hix, hsg⟩ := okH_at hmem
       have HV := Lib.hid (show hamV zs (T6[i]'(by rw [T6_len]; exact hlt)) = _ from hamV_is zs hf)
       have HTS := Lib.hid (show 0 :: (T6.take (i + 1)).map (hamV zs) = (0 :: (T6.take i).map (hamV zs)) ++ [hamV zs (T6[i]'(by rw [T6_len]; exact hlt))] from by rw [List.take_add_one, hq, List.map_append]; rfl)
       obtain ⟨A3', c3', he3, -, -, hrow⟩ := HLT.out.rows.open_
       rw [List.length_map, T6_len] at he3 hrow
       simp only [Value.slice.injEq, true_and] at he3
       obtain ⟨rfl, rfl⟩ := he3
       obtain ⟨ad, u, us, rfl, hz, hu, hc⟩ := hrow i hlt
       rw [List.getElem?_map, hq] at hz
       injection hz with hz
       subst hz
       generalize T6[i]'(by rw [T6_len]; exact hlt) = t at *
       obtain ⟨A5, c5, rfl, -, -, -⟩ := hu.open_
       rw [up_len] at hc hu
       have HFF := Lib.hid (fun W h => i_freeForm W (.slice A5 t.length c5) t fr h htl ht8 htm hf)
       have HEV := Lib.hid (fun W h => i_isEvenRoot W (.slice A5 t.length c5) t fr rs h htl ht8 htm hf hrs hrl)
       have HU := Lib.hid hu
       have hii : (i : Int) < 37 := by omega
       clear hq hmem htl ht8 htm hf hrs hrl hro hfn hsg hu hrow
       have hixx := fun W y (hy : Rows W (.slice A2 10 c2) (C6.map up)) (h : Ints W y (up fr)) => i_indexIn W (.slice A2 10 c2) y C6 fr hy h (by decide)
       generalize idxN C6 fr = ix at hix HV hixx
       have HIX := Lib.hid hixx
       clear hixx
       cases ix with
       | zero =>
        have HV0 := Lib.hid (show hamV zs t = 0 from HV.out)
        have hneg : (((0 : Nat) : Int) - 1) = -1 := by omega
        go_wp2_with (first
         | (go_at_call 93; (with_reducible refine (HFF.out _ HU.out).mono ?_); rintro e w4 ⟨x4, rfl, ho4, hb4⟩; have HO4 := Lib.hid ho4; have HB4 := Lib.hid hb4; have HOX := Lib.hid (HO.out.below hb4); have HLC4 := Lib.hid (HLC.out.below hb4); clear ho4 hb4)
         | (go_at_call 92; go_loud (refine (HIX.out _ _ HLC4.out.rows HO4.out.ints).mono ?_; rintro e w5 ⟨rfl, rfl⟩))
         | (at_builtin; go_loud (refine wpList_app1 T_int HOX.out.1 (by have := HOL.out; omega) (Nat.le_trans HB.out.size HB4.out.size) (by rfl) rfl (by rfl) (by rfl) (by rfl) ?_; intro v1 w6 hown1 hgr1; have HN := Lib.hid hown1; have HGR := Lib.hid hgr1; clear hown1 hgr1)))
        go_roundw
        case rel =>
         refine ⟨i + 1, by omega, by go_num, ?_, HG.out.trans (Grow.pre HB4.out HGR.out)⟩
         rw [HTS.out, HV0.out]
         exact own_snoc HO.out.2 (by unfold In64; omega) HN.out
        case measure => simp [intOf]; omega
       | succ i' =>
        have hi' : i' < zs.length := by rw [H10.out]; omega
        obtain ⟨az, z, rfl, hz, hz64, hcz0⟩ := H3.out i' hi'
        have hzn := HNU.out z (List.mem_of_getElem? hz)
        have hgz : zs.getD i' 0 = z := by simp [List.getD, hz]
        have HCZ := Lib.hid hcz0
        have hpos : ((i' + 1 : Nat) : Int) - 1 = (i' : Int) := by omega
        simp only [hpos] at HIX
        have hv := HV.out
        simp only [hgz] at hv
        have hii' : (i' : Int) < (zs.length : Int) := by omega
        clear hz hcz0 hgz HV hpos
        cases hev : evN t with
        | true =>
         rw [hev] at HEV hv
         have HV0 := Lib.hid (show hamV zs t = z from by rw [hv]; rfl)
         clear hv hev
         go_wp2_with (first
         | (go_at_call 93; (with_reducible refine (HFF.out _ HU.out).mono ?_); rintro e w4 ⟨x4, rfl, ho4, hb4⟩; have HO4 := Lib.hid ho4; have HB4 := Lib.hid hb4; have HLC4 := Lib.hid (HLC.out.below hb4); clear ho4 hb4)
         | (go_at_call 92; go_loud (refine (HIX.out _ _ HLC4.out.rows HO4.out.ints).mono ?_; rintro e w5 ⟨rfl, rfl⟩))
         | (go_at_call 94; go_loud ((with_reducible refine (HEV.out _ (HU.out.below HB4.out)).mono ?_); rintro e w7 ⟨rfl, hb7⟩; have HB7 := Lib.hid (HB4.out.trans (hb7.mono HB4.out.size)); have HOX := Lib.hid (HO.out.below HB7.out); have hcz := keepCell (HB.out.trans (HB7.out.mono HB.out.size)) HCZ.out; clear hb7))
         | (at_builtin; go_loud (refine wpList_app1 T_int HOX.out.1 (by have := HOL.out; omega) (Nat.le_trans HB.out.size HB7.out.size) (by rfl) rfl (by rfl) (by rfl) (by rfl) ?_; intro v1 w6 hown1 hgr1; have HN := Lib.hid hown1; have HGR := Lib.hid hgr1; clear hown1 hgr1)))
         go_roundw
         case rel =>
          refine ⟨i + 1, by omega, by go_num, ?_, HG.out.trans (Grow.pre HB7.out HGR.out)⟩
          rw [HTS.out, HV0.out]
          exact own_snoc HO.out.2 hz64 HN.out
         case measure => simp [intOf]; omega
        | false =>
         rw [hev] at HEV hv
         have HV0 := Lib.hid (show hamV zs t = (-z) % 10007 from by rw [hv]; rfl)
         have hbz : -9223372036854775808 <= -z /\ -z <= 9223372036854775807 := by omega
         have hw1 := w64_in' _ hbz
         have hw2 := IntWalk.i64_in _ hbz
         clear hv hev hbz
         go_wp2_with (first
         | (go_at_call 93; (with_reducible refine (HFF.out _ HU.out).mono ?_); rintro e w4 ⟨x4, rfl, ho4, hb4⟩; have HO4 := Lib.hid ho4; have HB4 := Lib.hid hb4; have HLC4 := Lib.hid (HLC.out.below hb4); clear ho4 hb4)
         | (go_at_call 92; go_loud (refine (HIX.out _ _ HLC4.out.rows HO4.out.ints).mono ?_; rintro e w5 ⟨rfl, rfl⟩))
         | (go_at_call 94; go_loud ((with_reducible refine (HEV.out _ (HU.out.below HB4.out)).mono ?_); rintro e w7 ⟨rfl, hb7⟩; have HB7 := Lib.hid (HB4.out.trans (hb7.mono HB4.out.size)); have HOX := Lib.hid (HO.out.below HB7.out); have hcz := keepCell (HB.out.trans (HB7.out.mono HB.out.size)) HCZ.out; clear hb7))
         | (go_at_call 56; go_loud (refine (i_num _ _ (by clear hw1 hw2; omega) (by clear hw1 hw2; omega)).mono ?_; rintro e w8 ⟨rfl, rfl⟩))
         | (at_builtin; go_loud (refine wpList_app1 T_int HOX.out.1 (by have := HOL.out; omega) (Nat.le_trans HB.out.size HB7.out.size) (by rfl) rfl (by rfl) (by rfl) (by rfl) ?_; intro v1 w6 hown1 hgr1; have HN := Lib.hid hown1; have HGR := Lib.hid hgr1; clear hown1 hgr1)))
         go_roundw
         case rel =>
          refine ⟨i + 1, by clear hw1 hw2; omega, by go_num, ?_, HG.out.trans (Grow.pre HB7.out HGR.out)⟩
          rw [HTS.out, HV0.out]
          clear hw1 hw2
          exact own_snoc HO.out.2 (by unfold In64; omega) HN.out
         case measure => clear hw1 hw2; simp [intOf]; omega
     · have hi37 : i = 37 := by omega
       go_wp2_with fail
       go_ret2
       have e : 0 :: (T6.take i).map (hamV zs) = hamZ zs := by rw [hi37, show T6.take 37 = T6 from List.take_of_length_le (by rw [T6_len]; exact Nat.le_refl _)]; rfl
       exact ⟨_, rfl, Eq.mp (congrArg (fun l => OwnInts wr w.heap.size tI _ l) e) HO.out, HB.out⟩
 · have hd : ((zs.length : Int) != 10) = true := by simp; omega
   have HC := Lib.hid (show hamC zs = 2 from by simp [hamC, hamOk, h10])
   have HR := Lib.hid (show hamR zs = [] from by simp [hamR, hamOk, h10])
   rw [HC.out, HR.out]
   clear h10
   go_enter Tryz.func43, Tryz.ntmps43
   go_wp2_with fail
   go_ret2
   exact ⟨_, rfl, OwnInts.nil _ _ _, Below.refl _ _⟩
def CD : List (List Nat) := [[0], [0, 1, 2], [0, 1, 2, 2], [0, 1, 2, 3, 4], [0, 1, 2, 3, 3], [0, 1, 2, 2, 2], [0, 1, 2, 3, 4, 4], [0, 1, 2, 3, 4, 3], [0, 1, 2, 3, 3, 3], [0, 1, 2, 2, 2, 2]]
theorem CD_eq : allG cndN 6 = CD := eqLL_eq (by decide +kernel)
def okCd (t : List Nat) : Bool := Nat.beq (fndN T6n t) (idxN T6n t) && (Nat.ble 1 (idxN T6n t) && (Nat.ble (idxN T6n t) 37 && (eqN (T6n.getD (idxN T6n t - 1) []) t && (Nat.ble t.length 6 && Nat.ble 1 t.length && t.all fun l => Nat.ble l 6))))
theorem okCd_all : CD.all okCd = true := by decide +kernel
theorem CD_at {t : List Nat} (h : t ∈ CD) : ∃ p : Nat, idxN T6n t = p + 1 /\ fndN T6n t = p + 1 /\ p < 37 /\ T6n[p]? = some t /\ t.length <= 6 /\ 1 <= t.length /\ (∀ l ∈ t, l <= 6) := by
 have h1 := okCd_all
 rw [List.all_eq_true] at h1
 have h2 := h1 t h
 unfold okCd at h2
 simp only [Bool.and_eq_true, List.all_eq_true] at h2
 obtain ⟨a1, a2, a3, a4, ⟨a5, a7⟩, a6⟩ := h2
 have b1 := Nat.eq_of_beq_eq_true a1
 have b2 := Nat.le_of_ble_eq_true a2
 have b3 := Nat.le_of_ble_eq_true a3
 refine ⟨idxN T6n t - 1, by omega, by omega, by omega, ?_, Nat.le_of_ble_eq_true a5, Nat.le_of_ble_eq_true a7, fun l hl => Nat.le_of_ble_eq_true (a6 l hl)⟩
 have e := eqN_iff.1 a4
 have hlt : idxN T6n t - 1 < T6n.length := by rw [T6n_len]; omega
 rw [List.getD_eq_getElem?_getD, List.getElem?_eq_getElem hlt] at e
 rw [List.getElem?_eq_getElem hlt]
 simpa using e
def cdV (a : List Int) (t : List Nat) : Int := a.getD (idxN T6n t) 0
def rdV (a : List Int) : Int := match CD.find? (fun t => cdV a t != ((exV t : Nat) : Int)) with
 | some t => (t.length : Int) - 1
 | none => 6
theorem rdV_hit {a : List Int} {k : Nat} {t : List Nat} (h : ∀ i t', i < k -> CD[i]? = some t' -> cdV a t' = ((exV t' : Nat) : Int)) (ht : CD[k]? = some t) (hne : cdV a t ≠ ((exV t : Nat) : Int)) : rdV a = (t.length : Int) - 1 := by
 have : CD.find? (fun t => cdV a t != ((exV t : Nat) : Int)) = some t := by
  rw [List.find?_eq_some_iff_getElem]
  obtain ⟨hk, e⟩ := List.getElem?_eq_some_iff.1 ht
  refine ⟨by simpa using hne, k, hk, e, fun j hj => ?_⟩
  have := h j _ hj (List.getElem?_eq_getElem (by omega))
  simpa using this
 unfold rdV
 rw [this]
theorem rdV_miss {a : List Int} (h : ∀ i t', i < 10 -> CD[i]? = some t' -> cdV a t' = ((exV t' : Nat) : Int)) : rdV a = 6 := by
 have : CD.find? (fun t => cdV a t != ((exV t : Nat) : Int)) = none := by
  rw [List.find?_eq_none]
  intro t ht
  obtain ⟨i, hi, rfl⟩ := List.getElem_of_mem ht
  have := h i _ hi (List.getElem?_eq_getElem hi)
  simpa using this
 unfold rdV
 rw [this]
theorem red_iff {x : Int} {d e : Nat} (h0 : 0 <= x) (h1 : x <= 10006) (he : e <= 10006) (hd : d * e % 10007 = 1) : x * (d : Int) % 10007 = 1 ↔ x = (e : Int) := by
 have hd' : ((d : Int) * (e : Int)) % 10007 = 1 := by
  have := congrArg (fun n : Nat => (n : Int)) hd
  simpa using this
 constructor
 · intro h
   have h2 : x * ((d : Int) * (e : Int)) % 10007 = (e : Int) % 10007 := by
    rw [<- Int.mul_assoc, Int.mul_emod, h, Int.one_mul, Int.emod_emod_of_dvd _ (Int.dvd_refl _)]
   rw [Int.mul_emod, hd', Int.mul_one, Int.emod_emod_of_dvd _ (Int.dvd_refl _)] at h2
   omega
 · intro h
   rw [h, Int.mul_comm]
   exact hd'
noncomputable def rdoR (a : List Int) : Int := if chrC a = 0 then rdV a else 0
theorem Rows.cond {w : World} {A : Option Addr} {c : Nat} (h : Rows w (.slice A 10 c) (CD.map up)) {i : Nat} (hi : i < 10) :
  ∃ ad At ct t, A = some ad /\ CD[i]? = some t /\ Ints w (.slice At t.length ct) (up t) /\ w.cell? (ad.add i) = some (.slice At t.length ct) := by
 obtain ⟨A', c', he, -, -, h3⟩ := h.open_
 rw [List.length_map, show CD.length = 10 from rfl] at he h3
 simp only [Value.slice.injEq, true_and] at he
 obtain ⟨rfl, rfl⟩ := he
 obtain ⟨ad, u, zs, rfl, hz, hu, hc⟩ := h3 i hi
 have ht : CD[i]? = some (CD[i]'(by exact hi)) := List.getElem?_eq_getElem _
 rw [List.getElem?_map, ht] at hz
 injection hz with hz
 subst hz
 obtain ⟨Au, cu, rfl, -, -, -⟩ := hu.open_
 rw [up_len] at hu hc
 exact ⟨ad, Au, cu, _, rfl, ht, hu, hc⟩
def hc (p : Nat) : Nat × Bool := HTab.getD p (0, true)
def cval (z : Nat -> Int) (p : Nat) : Int := match (hc p).1 with
 | 0 => 0
 | i + 1 => bif (hc p).2 then z i else - z i
def gP (i k : Nat) : Nat := gIdx (tr i) (tr k)
def beqC (a b : Nat × Bool) : Bool := Nat.beq a.1 b.1 && (Nat.beq a.1 0 || (a.2 != b.2))
def okHp (i k : Nat) : Bool := bif Nat.ble (szT (i + 1) + szT (k + 1)) 6 then
    beqC (hc (gP i k)) (hc (gP k i)) && (Nat.beq (szT (gP i k)) (szT (i + 1) + szT (k + 1)) && Nat.beq (szT (gP k i)) (szT (i + 1) + szT (k + 1)))
 else true
theorem hp1 : (List.range 37).all (fun i => (List.range 37).all (okHp i)) = true := by decide +kernel
theorem hp_at {i k : Nat} (hi : i < 37) (hk : k < 37) (hs : szT (i + 1) + szT (k + 1) <= 6) : beqC (hc (gP i k)) (hc (gP k i)) = true /\ szT (gP i k) = szT (i + 1) + szT (k + 1) /\ szT (gP k i) = szT (i + 1) + szT (k + 1) := by
 have h1 := hp1
 rw [List.all_eq_true] at h1
 have h2 := h1 i (List.mem_range.2 hi)
 rw [List.all_eq_true] at h2
 have h3 := h2 k (List.mem_range.2 hk)
 unfold okHp at h3
 rw [Nat.ble_eq_true_of_le hs, cond_true] at h3
 simp only [Bool.and_eq_true] at h3
 exact ⟨h3.1, Nat.eq_of_beq_eq_true h3.2.1, Nat.eq_of_beq_eq_true h3.2.2⟩
theorem beqC_sum {z : Nat -> Int} {p q : Nat} (h : beqC (hc p) (hc q) = true) : cval z p + cval z q = 0 := by
 unfold beqC at h
 rw [Bool.and_eq_true, Bool.or_eq_true] at h
 have e := Nat.eq_of_beq_eq_true h.1
 unfold cval
 rw [<- e]
 cases hp : (hc p).1 with
 | zero => rfl
 | succ i =>
  rcases h.2 with h2 | h2
  · rw [hp] at h2; cases h2
  · simp only
    cases h3 : (hc p).2 <;> cases h4 : (hc q).2 <;> rw [h3, h4] at h2 <;> first | (simp at h2; done) | (simp only [cond_true, cond_false]; omega)
theorem cval_pair (z : Nat -> Int) {i k : Nat} (hi : i < 37) (hk : k < 37) (hs : szT (i + 1) + szT (k + 1) <= 6) : cval z (gP i k) + cval z (gP k i) = 0 := beqC_sum (hp_at hi hk hs).1
def stepC (K : List Nat) (c : Nat × Nat × Nat) : Bool :=
 Nat.blt c.2.1 37 && (Nat.blt c.2.2 37 && (Nat.ble (szT (c.2.1 + 1) + szT (c.2.2 + 1)) 6 &&
  ((Nat.beq (gP c.2.1 c.2.2) c.1 && (Nat.beq (gP c.2.2 c.2.1) c.1 || K.contains (gP c.2.2 c.2.1))) ||
   (Nat.beq (gP c.2.2 c.2.1) c.1 && K.contains (gP c.2.1 c.2.2)))))
def runC : List Nat -> List (Nat × Nat × Nat) -> Bool
 | K, [] => (List.range 38).all fun p => Nat.beq p 0 || K.contains p
 | K, c :: cs => stepC K c && runC (c.1 :: K) cs
theorem hp2 : runC HBas HCer = true := by decide +kernel
theorem ar1 {d1 d2 c1 c2 : Int} (h : (d1 + d2) % 10007 = 0) (hc : c1 + c2 = 0) (h2 : d2 % 10007 = c2 % 10007) : d1 % 10007 = c1 % 10007 := by omega
theorem ar2 {d1 d2 c1 c2 : Int} (h : (d1 + d2) % 10007 = 0) (hc : c1 + c2 = 0) (h2 : d1 % 10007 = c1 % 10007) : d2 % 10007 = c2 % 10007 := by omega
theorem ar0 {d1 c1 : Int} (h : (d1 + d1) % 10007 = 0) (hc : c1 + c1 = 0) : d1 % 10007 = c1 % 10007 := by
 have hc0 : c1 = 0 := by omega
 subst hc0
 have h0 : 0 <= d1 % 10007 := Int.emod_nonneg _ (by omega)
 have h1 : d1 % 10007 < 10007 := Int.emod_lt_of_pos _ (by omega)
 have h2 : (d1 % 10007 + d1 % 10007) % 10007 = 0 := by rw [<- Int.add_emod]; exact h
 generalize d1 % 10007 = x at *
 clear h hc
 show x = 0
 obtain ⟨y, hy⟩ : ∃ y, y = x + x := ⟨_, rfl⟩
 rw [<- hy] at h2
 by_cases hx : y < 10007
 · have b0 : 0 <= y := by clear h2; omega
   rw [Int.emod_eq_of_lt b0 hx] at h2
   clear hx b0
   omega
 · have b0 : 0 <= y - 10007 := by clear h2; omega
   have b1 : y - 10007 < 10007 := by clear h2; omega
   have h3 : (y - 10007) % 10007 = 0 := by rw [Int.sub_emod, h2]; rfl
   rw [Int.emod_eq_of_lt b0 b1] at h3
   clear h2 b0 b1 hx
   omega
theorem chain_run {d z : Nat -> Int} {S : Nat -> Prop}
  (hrel : ∀ i k, i < 37 -> k < 37 -> szT (i + 1) + szT (k + 1) <= 6 -> S (szT (i + 1) + szT (k + 1)) -> (d (gP i k) + d (gP k i)) % 10007 = 0) :
  ∀ (cs : List (Nat × Nat × Nat)) (K : List Nat), runC K cs = true -> (∀ p ∈ K, S (szT p) -> d p % 10007 = cval z p % 10007) -> ∀ p, 0 < p -> p < 38 -> S (szT p) -> d p % 10007 = cval z p % 10007
 | [], K, h, hK, p, h0, hp, hS => by
  unfold runC at h
  rw [List.all_eq_true] at h
  have h1 := h p (List.mem_range.2 hp)
  rw [Bool.or_eq_true] at h1
  rcases h1 with h1 | h1
  · have := Nat.eq_of_beq_eq_true h1; omega
  · exact hK p (by simpa using h1) hS
 | (q, i, k) :: cs, K, h, hK, p, h0, hp, hS => by
  unfold runC at h
  rw [Bool.and_eq_true] at h
  obtain ⟨h1, h2⟩ := h
  refine chain_run hrel cs (q :: K) h2 (fun r hr hSr => ?_) p h0 hp hS
  rcases List.mem_cons.1 hr with rfl | hr
  · unfold stepC at h1
    dsimp only at h1
    simp only [Bool.and_eq_true, Bool.or_eq_true] at h1
    obtain ⟨hi, hk, hs, h3⟩ := h1
    have hi := blt_lt hi
    have hk := blt_lt hk
    have hs := Nat.le_of_ble_eq_true hs
    obtain ⟨-, s1, s2⟩ := hp_at hi hk hs
    have hsum := cval_pair z hi hk hs
    have hrl := hrel i k hi hk hs
    obtain ⟨g1, hg1⟩ : ∃ g, g = gP i k := ⟨_, rfl⟩
    obtain ⟨g2, hg2⟩ : ∃ g, g = gP k i := ⟨_, rfl⟩
    rw [<- hg1, <- hg2] at hsum hrl h3
    rw [<- hg1] at s1
    rw [<- hg2] at s2
    rw [<- s1] at s2 hrl
    clear hg1 hg2 s1 hp
    rcases h3 with ⟨e1, h4⟩ | ⟨e2, h4⟩
    · have e1 := Nat.eq_of_beq_eq_true e1
      subst e1
      have hrl := hrl hSr
      rcases h4 with h4 | h4
      · have e2 := Nat.eq_of_beq_eq_true h4
        subst e2
        exact ar0 hrl hsum
      · have h5 := hK _ (by simpa using h4) (by rw [s2]; exact hSr)
        exact ar1 hrl hsum h5
    · have e2 := Nat.eq_of_beq_eq_true e2
      subst e2
      have hrl := hrl (by rw [<- s2]; exact hSr)
      have h5 := hK _ (by simpa using h4) (by rw [<- s2]; exact hSr)
      exact ar2 hrl hsum h5
  · exact hK r hr hSr
theorem chain {d z : Nat -> Int} {S : Nat -> Prop}
  (hrel : ∀ i k, i < 37 -> k < 37 -> szT (i + 1) + szT (k + 1) <= 6 -> S (szT (i + 1) + szT (k + 1)) -> (d (gP i k) + d (gP k i)) % 10007 = 0)
  (hbase : ∀ p ∈ HBas, S (szT p) -> d p % 10007 = cval z p % 10007) : ∀ p, 0 < p -> p < 38 -> S (szT p) -> d p % 10007 = cval z p % 10007 :=
 chain_run hrel HCer HBas hp2 hbase
def okHv (p : Nat) : Bool := Nat.beq p 0 || (Nat.beq (hIdx (tr (p - 1))) (hc p).1 && (Nat.beq (hc p).1 0 || ((evN (tr (p - 1))) == (hc p).2)) && Nat.ble (hc p).1 10)
theorem hp3 : (List.range 38).all okHv = true := by decide +kernel
theorem hv_at {p : Nat} (h0 : 0 < p) (hp : p < 38) : hIdx (tr (p - 1)) = (hc p).1 /\ ((hc p).1 = 0 \/ evN (tr (p - 1)) = (hc p).2) /\ (hc p).1 <= 10 := by
 have h1 := hp3
 rw [List.all_eq_true] at h1
 have h2 := h1 p (List.mem_range.2 hp)
 unfold okHv at h2
 simp only [Bool.or_eq_true, Bool.and_eq_true] at h2
 rcases h2 with h2 | ⟨⟨h2, h3⟩, h4⟩
 · have := Nat.eq_of_beq_eq_true h2; omega
 · exact ⟨Nat.eq_of_beq_eq_true h2, h3.imp Nat.eq_of_beq_eq_true (fun h => by simpa using h), Nat.le_of_ble_eq_true h4⟩
theorem hamZ_gz (zs : List Int) {p : Nat} (hp : p < 38) (h0 : 0 < p) : gz (hamZ zs) p % 10007 = cval (gz zs) p % 10007 := by
 obtain ⟨q, rfl⟩ : ∃ q, p = q + 1 := ⟨p - 1, by omega⟩
 obtain ⟨h1, h2, -⟩ := hv_at h0 hp
 have e : gz (hamZ zs) (q + 1) = hamV zs (tr q) := by
  show (0 :: T6.map (hamV zs)).getD (q + 1) 0 = _
  have ht : T6[q]? = some (tr q) := tr_get (by omega)
  rw [List.getD_cons_succ, List.getD_eq_getElem?_getD, List.getElem?_map, ht]
  rfl
 rw [e]
 show hamV zs (tr (q + 1 - 1)) % 10007 = _
 unfold hamV cval
 rw [h1]
 cases hi : (hc (q + 1)).1 with
 | zero => rfl
 | succ i =>
  rcases h2 with h2 | h2
  · rw [hi] at h2; cases h2
  · simp only
    rw [h2]
    cases (hc (q + 1)).2 with
    | true => rfl
    | false =>
     show (if false = true then zs.getD i 0 else (-(zs.getD i 0)) % 10007) % 10007 = (- zs.getD i 0) % 10007
     rw [if_neg (by simp)]
     omega
theorem hamZ_len (zs : List Int) : (hamZ zs).length = 38 := by
 unfold hamZ
 rw [List.length_cons, List.length_map, T6_len]
theorem hamZ_nums {zs : List Int} (h : Nums zs) : Nums (hamZ zs) := by
 intro z hz
 rcases List.mem_cons.1 hz with rfl | hz
 · omega
 · obtain ⟨t, -, rfl⟩ := List.mem_map.1 hz
   unfold hamV
   split
   · omega
   · split
     · exact getD_nums h _
     · omega
theorem hamZ_head (zs : List Int) : (hamZ zs).getD 0 0 = 0 := rfl
theorem szT_tr {i : Nat} (hi : i < 37) : szT (i + 1) = (tr i).length := by rw [szT_is (by omega)]; exact sz_tr hi
theorem ar3 {a b c d : Int} (h1 : a % 10007 = c % 10007) (h2 : b % 10007 = d % 10007) (h : c + d = 0) : (a + b) % 10007 = 0 % 10007 := by omega
def okHb (j : Nat) : Bool := Nat.beq (idxN T6n (CD.getD j [])) (HBas.getD j 0) && (Nat.beq (hc (HBas.getD j 0)).1 (j + 1) && (hc (HBas.getD j 0)).2)
theorem hp4 : (List.range 10).all okHb = true := by decide +kernel
theorem hb_at {j : Nat} (h : j < 10) : idxN T6n (CD.getD j []) = HBas.getD j 0 /\ (hc (HBas.getD j 0)).1 = j + 1 /\ (hc (HBas.getD j 0)).2 = true := by
 have h1 := hp4
 rw [List.all_eq_true] at h1
 have h2 := h1 j (List.mem_range.2 h)
 unfold okHb at h2
 simp only [Bool.and_eq_true] at h2
 exact ⟨Nat.eq_of_beq_eq_true h2.1, Nat.eq_of_beq_eq_true h2.2.1, h2.2.2⟩
theorem cval_base (z : Nat -> Int) {j : Nat} (h : j < 10) : cval z (HBas.getD j 0) = z j := by
 obtain ⟨-, h1, h2⟩ := hb_at h
 unfold cval
 rw [h1, h2]
 rfl
theorem HBas_bd {j : Nat} (h : j < 10) : 0 < HBas.getD j 0 /\ HBas.getD j 0 < 38 := by
 have h1 : (List.range 10).all (fun j => Nat.blt 0 (HBas.getD j 0) && Nat.blt (HBas.getD j 0) 38) = true := by decide +kernel
 rw [List.all_eq_true] at h1
 have h2 := h1 j (List.mem_range.2 h)
 rw [Bool.and_eq_true] at h2
 exact ⟨blt_lt h2.1, blt_lt h2.2⟩
def frL (b : List Int) : List Int := CD.map (cdV b)
theorem frL_at (b : List Int) {j : Nat} (h : j < 10) : (frL b).getD j 0 = b.getD (HBas.getD j 0) 0 := by
 have hl : j < CD.length := h
 obtain ⟨h1, -, -⟩ := hb_at h
 unfold frL
 rw [List.getD_eq_getElem?_getD, List.getElem?_map, List.getElem?_eq_getElem hl]
 show cdV b CD[j] = _
 unfold cdV
 rw [<- h1]
 congr 2
 rw [List.getD_eq_getElem?_getD, List.getElem?_eq_getElem hl]
 rfl
end Go.Proofs.YtofabikjjkapmaaGreat
