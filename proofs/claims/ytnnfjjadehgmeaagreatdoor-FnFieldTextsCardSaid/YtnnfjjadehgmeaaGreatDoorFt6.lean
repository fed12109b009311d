/- Contracts of the library, laid: strconv.FormatInt at base 10, strings.Join. | Walk of the program: numberText. | Contracts of the library, laid: strconv.ParseInt, strings.Split, Cut, CutPrefix. | Walk of the program: fieldText. | Walk of the reference: l01Split. | Walks of the reference: l01Value, l01Frac. -/
import Derived.Test.YtnnfjjadehgmeaaGreatDoorFt3
import Derived.Shelf.Strconv.Itoa4
import Derived.Shelf.Strings.OnBuilder
import Derived.Lib.LaidTab
import Derived.Test.YtnnfjjadehgmeaaGreatDoorFt4
import Derived.Test.YtnnfjjadehgmeaaGreatDoorFt2
import Derived.Deep.CutRange
import Derived.Deep.CutBlock
import Derived.Shelf.Strings.Split
import Derived.Shelf.Strings.Cut
import Derived.Shelf.Small.Wraps
import Derived.Shelf.Strconv.ErrVarParseInt
import Derived.Test.YtnnfjjadehgmeaaGreatDoorFt5
import Derived.Deep.QuietTactic
set_option maxRecDepth 100000
namespace Go.Proofs
open Go.Shelf Go.RowKit Go.Lib Go.Sort
def Tryz.laysM173_ren : Go.Shelf.Ren := ⟨fun | 173 => 73 | 246 => 92 | 283 => 105 | 284 => 106 | 285 => 107 | 286 => 108 | 129 => 119 | 317 => 118 | 318 => 120 | 319 => 121 | 320 => 122 | 337 => 128 | 338 => 129 | n => n, fun | 2 => 2 | 3 => 3 | 9 => 9 | 4 => 4 | 171 => 114 | 0 => 0 | 53 => 74 | 37 => 30 | 5 => 5 | 173 => 117 | 212 => 136 | 51 => 126 | 20 => 20 | 213 => 137 | 46 => 81 | 232 => 149 | 233 => 150 | n => n, fun | 17 => 3 | 18 => 6 | 19 => 7 | n => n⟩
theorem Tryz.laysM173 : Go.Proofs.LaysM.n173 Tryz.prog Tryz.laysM173_ren := {
  mixed := by kernel_rfl
  f129 := Tryz.func119.trans (congrArg some (by kernel_rfl))
  f173 := Tryz.func73.trans (congrArg some (by kernel_rfl))
  f246 := Tryz.func92.trans (congrArg some (by kernel_rfl))
  f283 := Tryz.func105.trans (congrArg some (by kernel_rfl))
  f284 := Tryz.func106.trans (congrArg some (by kernel_rfl))
  f285 := Tryz.func107.trans (congrArg some (by kernel_rfl))
  f286 := Tryz.func108.trans (congrArg some (by kernel_rfl))
  f317 := Tryz.func118.trans (congrArg some (by kernel_rfl))
  f318 := Tryz.func120.trans (congrArg some (by kernel_rfl))
  f319 := Tryz.func121.trans (congrArg some (by kernel_rfl))
  f320 := Tryz.func122.trans (congrArg some (by kernel_rfl))
  f337 := Tryz.func128.trans (congrArg some (by kernel_rfl))
  f338 := Tryz.func129.trans (congrArg some (by kernel_rfl))
  t0 := Tryz.underlying0
  a0 := Tryz.isAgg0
  z0 := Tryz.sizeOf0
  v0 := Tryz.zeroValue0
  t2 := Tryz.underlying2
  a2 := Tryz.isAgg2
  z2 := Tryz.sizeOf2
  v2 := Tryz.zeroValue2
  t3 := Tryz.underlying3
  a3 := Tryz.isAgg3
  z3 := Tryz.sizeOf3
  v3 := Tryz.zeroValue3
  t4 := Tryz.underlying4
  a4 := Tryz.isAgg4
  z4 := Tryz.sizeOf4
  v4 := Tryz.zeroValue4
  t5 := Tryz.underlying5
  a5 := Tryz.isAgg5
  z5 := Tryz.sizeOf5
  v5 := Tryz.zeroValue5
  t9 := Tryz.underlying9
  a9 := Tryz.isAgg9
  z9 := Tryz.sizeOf9
  v9 := Tryz.zeroValue9
  t20 := Tryz.underlying20
  a20 := Tryz.isAgg20
  z20 := Tryz.sizeOf20
  v20 := Tryz.zeroValue20
  t37 := Tryz.underlying30
  a37 := Tryz.isAgg30
  z37 := Tryz.sizeOf30
  v37 := Tryz.zeroValue30
  t46 := Tryz.underlying81
  a46 := Tryz.isAgg81
  z46 := Tryz.sizeOf81
  v46 := Tryz.zeroValue81
  t51 := Tryz.underlying126
  a51 := Tryz.isAgg126
  z51 := Tryz.sizeOf126
  v51 := Tryz.zeroValue126
  t53 := Tryz.underlying74
  a53 := Tryz.isAgg74
  z53 := Tryz.sizeOf74
  v53 := Tryz.zeroValue74
  t171 := Tryz.underlying114
  a171 := Tryz.isAgg114
  z171 := Tryz.sizeOf114
  v171 := Tryz.zeroValue114
  t173 := Tryz.underlying117
  a173 := Tryz.isAgg117
  z173 := Tryz.sizeOf117
  v173 := Tryz.zeroValue117
  t212 := Tryz.underlying136
  a212 := Tryz.isAgg136
  z212 := Tryz.sizeOf136
  v212 := Tryz.zeroValue136
  t213 := Tryz.underlying137
  a213 := Tryz.isAgg137
  z213 := Tryz.sizeOf137
  t232 := Tryz.underlying149
  a232 := Tryz.isAgg149
  z232 := Tryz.sizeOf149
  v232 := Tryz.zeroValue149
  t233 := Tryz.underlying150
  a233 := Tryz.isAgg150
  z233 := Tryz.sizeOf150
  v233 := Tryz.zeroValue150
  g17 := by kernel_rfl
  g18 := by kernel_rfl
  g19 := by kernel_rfl
  i0 := by kernel_rfl
  i2 := by kernel_rfl
  i3 := by kernel_rfl
  i4 := by kernel_rfl
  i5 := by kernel_rfl
  i9 := by kernel_rfl
  i20 := by kernel_rfl
  i37 := by kernel_rfl
  i46 := by kernel_rfl
  i51 := by kernel_rfl
  i53 := by kernel_rfl
  i171 := by kernel_rfl
  i173 := by kernel_rfl
  i212 := by kernel_rfl
  i232 := by kernel_rfl
  i233 := by kernel_rfl
  m17 := by kernel_rfl
  m18 := by kernel_rfl
  m19 := by kernel_rfl }
def Tryz.lays156_ren : Go.Shelf.Ren := ⟨fun | 156 => 49 | 165 => 74 | 166 => 75 | 169 => 76 | 240 => 93 | 241 => 94 | 276 => 109 | 277 => 110 | n => n, fun | 31 => 37 | 9 => 9 | 3 => 3 | 4 => 4 | 0 => 0 | 20 => 20 | 72 => 93 | 76 => 97 | 70 => 91 | 37 => 30 | 75 => 96 | 127 => 109 | 164 => 119 | 5 => 5 | 80 => 99 | n => n, fun | n => n⟩
theorem Tryz.lays156 : Go.Proofs.Lays.n156 Tryz.prog Tryz.lays156_ren := {
  mixed := by kernel_rfl
  f156 := Tryz.func49.trans (congrArg some (by kernel_rfl))
  f165 := Tryz.func74.trans (congrArg some (by kernel_rfl))
  f166 := Tryz.func75.trans (congrArg some (by kernel_rfl))
  f169 := Tryz.func76.trans (congrArg some (by kernel_rfl))
  f240 := Tryz.func93.trans (congrArg some (by kernel_rfl))
  f241 := Tryz.func94.trans (congrArg some (by kernel_rfl))
  f276 := Tryz.func109.trans (congrArg some (by kernel_rfl))
  f277 := Tryz.func110.trans (congrArg some (by kernel_rfl))
  t0 := Tryz.underlying0
  a0 := Tryz.isAgg0
  z0 := Tryz.sizeOf0
  v0 := Tryz.zeroValue0
  t3 := Tryz.underlying3
  a3 := Tryz.isAgg3
  z3 := Tryz.sizeOf3
  v3 := Tryz.zeroValue3
  t4 := Tryz.underlying4
  a4 := Tryz.isAgg4
  z4 := Tryz.sizeOf4
  v4 := Tryz.zeroValue4
  t9 := Tryz.underlying9
  a9 := Tryz.isAgg9
  z9 := Tryz.sizeOf9
  v9 := Tryz.zeroValue9
  t20 := Tryz.underlying20
  a20 := Tryz.isAgg20
  z20 := Tryz.sizeOf20
  v20 := Tryz.zeroValue20
  t31 := Tryz.underlying37
  a31 := Tryz.isAgg37
  z31 := Tryz.sizeOf37
  v31 := Tryz.zeroValue37
  t37 := Tryz.underlying30
  a37 := Tryz.isAgg30
  z37 := Tryz.sizeOf30
  v37 := Tryz.zeroValue30
  t70 := Tryz.underlying91
  a70 := Tryz.isAgg91
  z70 := Tryz.sizeOf91
  v70 := Tryz.zeroValue91
  t72 := Tryz.underlying93
  a72 := Tryz.isAgg93
  z72 := Tryz.sizeOf93
  v72 := Tryz.zeroValue93
  t75 := Tryz.underlying96
  a75 := Tryz.isAgg96
  z75 := Tryz.sizeOf96
  v75 := Tryz.zeroValue96
  t76 := Tryz.underlying97
  a76 := Tryz.isAgg97
  z76 := Tryz.sizeOf97
  v76 := Tryz.zeroValue97
  t127 := Tryz.underlying109
  a127 := Tryz.isAgg109
  z127 := Tryz.sizeOf109
  v127 := Tryz.zeroValue109
  t164 := Tryz.underlying119
  a164 := Tryz.isAgg119
  z164 := Tryz.sizeOf119
  v164 := Tryz.zeroValue119 }
theorem Tryz.Builder_Extra_156 : Builder.Extra Tryz.prog Tryz.lays156_ren where
  sizeBuilder := by kernel_rfl
  liesBuilder := by kernel_rfl
  t5 := Tryz.underlying5
  a5 := Tryz.isAgg5
  z5 := Tryz.sizeOf5
  v5 := Tryz.zeroValue5
  infoByte := by kernel_rfl
  cellsByte := by kernel_rfl
  sizeByte := by kernel_rfl
  neB5 := by decide
end Go.Proofs

set_option maxRecDepth 100000
set_option linter.unusedVariables false
set_option linter.unusedSimpArgs false
namespace Go.Proofs.YtnnfjjadehgmeaaGreatDoor
open Go.RowKit

abbrev PowTab (w : World) : Prop := Lib.TabIs Tryz.prog w "internal/strconv.uint64pow10" .u64 Lib.pow10Tab
theorem below_grow (w : World) (k : Nat) (os : Array Obj) : Below w.heap.size w (Go.Sort.grow (w.drewN k) os) :=
  ⟨rfl, rfl, rfl, by show w.heap.size ≤ (w.heap ++ os).size; rw [Array.size_append]; omega, fun j hj => by
    show (w.heap ++ os)[j]? = w.heap[j]?
    simp [Array.getElem?_append, hj]⟩
theorem powTab_below {w w' : World} (h : PowTab w) (hb : Below w.heap.size w w') : PowTab w' := by
  unfold PowTab Lib.TabIs World.var? at h ⊢
  cases hg : Tryz.prog.globalNamed "internal/strconv.uint64pow10" with
  | none => rw [hg] at h; cases h
  | some g =>
    rw [hg] at h
    simp only [Option.bind_some] at h ⊢
    have hlt : g < w.heap.size := by
      rcases Nat.lt_or_ge g w.heap.size with h' | h'
      · exact h'
      · rw [Array.getElem?_eq_none h'] at h; cases h
    rw [hb.block g hlt]
    exact h
theorem lib_FormatInt (x : Int) (w : World) (h0 : -1000000 ≤ x) (h1 : x ≤ 1000000) (ht : PowTab w) :
    Calls Tryz.prog 73 #[.int .i64 x, .int .i64 10] w fun e w' => e = .returned (strB (Lib.itoa x)) ∧ Below w.heap.size w w' :=
  (Any.strconv_FormatInt_10 Tryz.laysM173 x (by omega) (by omega) w ht).mono fun e w' ⟨he, k, os, hw⟩ => ⟨he, hw ▸ below_grow w k os⟩
theorem inR_70 {p : Int} : inR p (-70) 70 = (decide (-70 ≤ p) && decide (p ≤ 70)) := rfl
set_option maxHeartbeats 4000000 in
theorem i_numberText (a : Int) (w : World) (ha : 0 ≤ a) (ha' : a ≤ 10006) (ht : PowTab w) :
    Calls Tryz.prog 48 #[.int .i64 a] w fun e w' => e = .returned (strB (numTx a)) ∧ Below w.heap.size w w' := by
  have HT := Lib.hid ht
  clear ht
  have HFI := Lib.hid (show ∀ (W : World) (x : Int), Below w.heap.size w W → -1000000 ≤ x → x ≤ 1000000 → Calls Tryz.prog 73 #[.int .i64 x, .int .i64 10] W fun e w' => e = .returned (strB (Lib.itoa x)) ∧ Below W.heap.size W w' from fun W x hb x0 x1 => lib_FormatInt x W x0 x1 (powTab_below HT.out hb))
  go_enter Tryz.func48, Tryz.ntmps48
  go_wp2_with fail
  go_loopw [3] (fun y wr => ∃ q : Nat, 1 ≤ q ∧ q ≤ 71 ∧ y = .int .i64 q ∧ Hid (numTx a = numTxF a (71 - q) q) ∧ Below w.heap.size w wr) (fun y _ => 71 - (intOf y).toNat)
  case atStart => exact ⟨1, by omega, by omega, rfl, Lib.hid rfl, Below.refl _ _⟩
  case round =>
    obtain ⟨q, h1, h2, rfl, HN, hb⟩ := hrel
    have HB := Lib.hid hb
    clear hb
    by_cases hq : q ≤ 70
    · have hqi : (q : Int) ≤ 70 := by omega
      have hmul : 0 ≤ a * (q : Int) ∧ a * (q : Int) ≤ 1000000 := ⟨Int.mul_nonneg ha (by omega), by
        have h3 : a * (q : Int) ≤ 10006 * 70 := Int.mul_le_mul ha' hqi (by omega) (by omega)
        omega⟩
      obtain ⟨x, hx⟩ : ∃ x, x = (a * (q : Int)) % 10007 := ⟨_, rfl⟩
      have hx0 : 0 ≤ x := by omega
      have hx1 : x ≤ 10006 := by omega
      have HNM := Lib.hid (fun W => show Calls Tryz.prog 71 #[.int .i64 (a * (q : Int))] W fun e w' => e = .returned (.int .i64 x) ∧ W = w' from by rw [hx]; exact i_num _ W (by omega) (by omega))
      obtain ⟨p, hp⟩ : ∃ p, p = if 5003 < x then x - 10007 else x := ⟨_, rfl⟩
      have HPC := Lib.hid (show p = cenP a q by rw [hp]; unfold cenP; rw [← hx])
      have hpb : -10007 ≤ p ∧ p ≤ 10007 := by rw [hp]; split <;> omega
      have HPX := Lib.hid hp
      have HIR := Lib.hid (fun W => i_inRange p (-70) 70 W)
      have HDV := Lib.hid (fun W => i_divisor p (q : Int) W (by omega) (by omega) (by omega) (by omega))
      clear hx hp
      go_upto_if 14 with (go_at_call 71; refine (HNM.out _).mono ?_; rintro e w2 ⟨rfl, rfl⟩)
      go_cut [4] from 5 to 35 (fun y wx => y = .int .i64 p ∧ Below w.heap.size w wx)
      case first =>
        by_cases hc : 5003 < x
        · have hE : p = x - 10007 := by rw [HPX.out, if_pos hc]
          have HE := Lib.hid hE
          clear hE
          go_wp2_with fail
          go_meet
          exact ⟨by rw [HE.out], HB.out⟩
        · have hE : p = x := by rw [HPX.out, if_neg hc]
          have HE := Lib.hid hE
          clear hE
          go_wp2_with fail
          go_meet
          exact ⟨by rw [HE.out], HB.out⟩
      case rest =>
        obtain ⟨rfl, hcut⟩ := hcut
        rename World => wz
        have HBZ := Lib.hid hcut
        clear hcut
        cases hin : inR p (-70) 70 with
        | false =>
          have hno : okQ a q = false := by
            unfold okQ
            rw [← HPC.out, ← inR_70, hin]
            rfl
          have HNX := Lib.hid (show numTx a = numTxF a (71 - (q + 1)) (q + 1) by
            rw [HN.out, show 71 - q = (71 - (q + 1)) + 1 by omega, numTxF_no hno])
          have hir : ∀ W, Calls Tryz.prog 30 #[.int .i64 p, .int .i64 (-70), .int .i64 70] W fun e w' => e = .returned (.bool false) ∧ W = w' := fun W => by have h := HIR.out W; rwa [hin] at h
          have HIR2 := Lib.hid hir
          clear hno hir hin
          go_wp2_with (go_at_call 30; refine (HIR2.out _).mono ?_; rintro e w2 ⟨rfl, rfl⟩)
          go_roundw
          case rel => exact ⟨q + 1, by omega, by omega, by go_num, HNX, HBZ.out⟩
          case measure => simp [intOf]; omega
        | true =>
          have hpb2 := inR_iff.1 hin
          have hir : ∀ W, Calls Tryz.prog 30 #[.int .i64 p, .int .i64 (-70), .int .i64 70] W fun e w' => e = .returned (.bool true) ∧ W = w' := fun W => by have h := HIR.out W; rwa [hin] at h
          have HIR2 := Lib.hid hir
          have HIN := Lib.hid hin
          clear hir hin
          obtain ⟨g, hg⟩ : ∃ g, g = Int.gcd p (q : Int) := ⟨_, rfl⟩
          rw [← hg] at HDV
          have HGG := Lib.hid hg
          clear hg
          by_cases hg1 : g = 1
          · have hok : okQ a q = true := by
              unfold okQ
              rw [← HPC.out, ← inR_70, HIN.out, ← HGG.out, hg1]
              rfl
            have HTX := Lib.hid (show numTx a = txPQ p q by rw [HN.out, show 71 - q = (70 - q) + 1 by omega, numTxF_yes hok, ← HPC.out])
            have hgb : ((g : Int) != 1) = false := by simp; omega
            clear hok
            have hLp := itoa_len p
            have hLq := itoa_len (q : Int)
            have hl2 : ¬ (9223372036854775807 < (Lib.itoa p).length + 1) := by omega
            have hl3 : ¬ (9223372036854775807 < (Lib.itoa p).length + 1 + (Lib.itoa (q : Int)).length) := by omega
            clear hLp hLq
            by_cases hq1 : q = 1
            · have hqb : ((q : Int) == 1) = true := by simp; omega
              have HQ1 := Lib.hid hq1
              clear hq1
              go_wp2_with (first
                | (go_at_call 30; refine (HIR2.out _).mono ?_; rintro e w2 ⟨rfl, rfl⟩)
                | (go_at_call 72; refine (HDV.out _).mono ?_; rintro e w3 ⟨rfl, n3, rfl⟩)
                | (go_at_call 73; refine (HFI.out _ _ (by exact below_drewN HBZ.out _) (by omega) (by omega)).mono ?_; rintro e w4 ⟨rfl, hb4⟩))
              go_ret
              refine ⟨?_, (below_drewN HBZ.out _).trans (hb4.mono HBZ.out.size)⟩
              rw [HTX.out, HQ1.out]
              unfold txPQ
              rw [if_pos rfl]
              rfl
            · have hqb : ((q : Int) == 1) = false := by simp; omega
              have HQ1 := Lib.hid hq1
              clear hq1
              go_wp2_with (first
                | (go_at_call 30; refine (HIR2.out _).mono ?_; rintro e w2 ⟨rfl, rfl⟩)
                | (go_at_call 72; refine (HDV.out _).mono ?_; rintro e w3 ⟨rfl, n3, rfl⟩)
                | (go_at_call 73; (first
                    | (refine (HFI.out _ p (by exact below_drewN HBZ.out _) (by omega) (by omega)).mono ?_; rintro e w4 ⟨rfl, hb4⟩)
                    | (refine (HFI.out _ (q : Int) (by exact (below_drewN HBZ.out _).trans (hb4.mono HBZ.out.size)) (by omega) (by omega)).mono ?_; rintro e w5 ⟨rfl, hb5⟩))))
              go_ret
              have hz := (below_drewN HBZ.out _).trans (hb4.mono HBZ.out.size)
              refine ⟨?_, hz.trans (hb5.mono hz.size)⟩
              rw [HTX.out, str_cat2, str_cat]
              unfold txPQ
              rw [if_neg HQ1.out, itoa_nn (p := (q : Int)) (by omega)]
              simp [strB]
          · have hno : okQ a q = false := by
              unfold okQ
              rw [← HPC.out, ← HGG.out]
              simp [hg1]
            have HNX := Lib.hid (show numTx a = numTxF a (71 - (q + 1)) (q + 1) by
              rw [HN.out, show 71 - q = (71 - (q + 1)) + 1 by omega, numTxF_no hno])
            have hgb : ((g : Int) != 1) = true := by simp; omega
            clear hno
            go_wp2_with (first
              | (go_at_call 30; refine (HIR2.out _).mono ?_; rintro e w2 ⟨rfl, rfl⟩)
              | (go_at_call 72; refine (HDV.out _).mono ?_; rintro e w3 ⟨rfl, n3, rfl⟩))
            go_roundw
            case rel => exact ⟨q + 1, by omega, by omega, by go_num, HNX, below_drewN HBZ.out _⟩
            case measure => simp [intOf]; omega
    · have hqe : q = 71 := by omega
      subst hqe
      have HFN := Lib.hid (show numTx a = Lib.itoa a by rw [HN.out]; rfl)
      go_wp2_with (go_at_call 73; refine (HFI.out _ _ HB.out (by omega) (by omega)).mono ?_; rintro e w4 ⟨rfl, hb4⟩)
      go_ret
      exact ⟨by rw [HFN.out]; rfl, HB.out.trans (hb4.mono HB.out.size)⟩
end Go.Proofs.YtnnfjjadehgmeaaGreatDoor

set_option maxRecDepth 100000
namespace Go.Proofs
open Go.Shelf Go.RowKit Go.Lib Go.Sort
def Tryz.laysC174_ren : Go.Shelf.Ren := ⟨fun | 174 => 90 | 247 => 102 | 245 => 103 | 287 => 113 | 279 => 114 | 280 => 115 | 281 => 116 | 282 => 117 | 321 => 123 | 322 => 124 | 316 => 125 | 171 => 127 | 205 => 126 | 243 => 130 | 246 => 92 | 283 => 105 | 284 => 106 | 285 => 107 | 286 => 108 | 129 => 119 | 317 => 118 | 318 => 120 | 319 => 121 | 320 => 122 | 337 => 128 | 338 => 129 | n => n, fun | 9 => 9 | 3 => 3 | 2 => 2 | 75 => 96 | 85 => 107 | 4 => 4 | 167 => 129 | 5 => 5 | 53 => 74 | 175 => 130 | 46 => 81 | 168 => 132 | 37 => 30 | 0 => 0 | 210 => 143 | 21 => 21 | 127 => 109 | 145 => 148 | 143 => 146 | 171 => 114 | 173 => 117 | 212 => 136 | 51 => 126 | 20 => 20 | 213 => 137 | 232 => 149 | 233 => 150 | 80 => 99 | n => n, fun | 15 => 4 | 16 => 5 | 17 => 3 | 18 => 6 | 19 => 7 | n => n⟩
theorem Tryz.laysC174 : Go.Proofs.LaysC.n174 Tryz.prog Tryz.laysC174_ren := {
  mixed := by kernel_rfl
  f129 := Tryz.func119.trans (congrArg some (by kernel_rfl))
  f171 := Tryz.func127.trans (congrArg some (by kernel_rfl))
  f174 := Tryz.func90.trans (congrArg some (by kernel_rfl))
  f205 := Tryz.func126.trans (congrArg some (by kernel_rfl))
  f243 := Tryz.func130.trans (congrArg some (by kernel_rfl))
  f245 := Tryz.func103.trans (congrArg some (by kernel_rfl))
  f246 := Tryz.func92.trans (congrArg some (by kernel_rfl))
  f247 := Tryz.func102.trans (congrArg some (by kernel_rfl))
  f279 := Tryz.func114.trans (congrArg some (by kernel_rfl))
  f280 := Tryz.func115.trans (congrArg some (by kernel_rfl))
  f281 := Tryz.func116.trans (congrArg some (by kernel_rfl))
  f282 := Tryz.func117.trans (congrArg some (by kernel_rfl))
  f283 := Tryz.func105.trans (congrArg some (by kernel_rfl))
  f284 := Tryz.func106.trans (congrArg some (by kernel_rfl))
  f285 := Tryz.func107.trans (congrArg some (by kernel_rfl))
  f286 := Tryz.func108.trans (congrArg some (by kernel_rfl))
  f287 := Tryz.func113.trans (congrArg some (by kernel_rfl))
  f316 := Tryz.func125.trans (congrArg some (by kernel_rfl))
  f317 := Tryz.func118.trans (congrArg some (by kernel_rfl))
  f318 := Tryz.func120.trans (congrArg some (by kernel_rfl))
  f319 := Tryz.func121.trans (congrArg some (by kernel_rfl))
  f320 := Tryz.func122.trans (congrArg some (by kernel_rfl))
  f321 := Tryz.func123.trans (congrArg some (by kernel_rfl))
  f322 := Tryz.func124.trans (congrArg some (by kernel_rfl))
  f337 := Tryz.func128.trans (congrArg some (by kernel_rfl))
  f338 := Tryz.func129.trans (congrArg some (by kernel_rfl))
  t0 := Tryz.underlying0
  a0 := Tryz.isAgg0
  z0 := Tryz.sizeOf0
  v0 := Tryz.zeroValue0
  t2 := Tryz.underlying2
  a2 := Tryz.isAgg2
  z2 := Tryz.sizeOf2
  v2 := Tryz.zeroValue2
  t3 := Tryz.underlying3
  a3 := Tryz.isAgg3
  z3 := Tryz.sizeOf3
  v3 := Tryz.zeroValue3
  t4 := Tryz.underlying4
  a4 := Tryz.isAgg4
  z4 := Tryz.sizeOf4
  v4 := Tryz.zeroValue4
  t5 := Tryz.underlying5
  a5 := Tryz.isAgg5
  z5 := Tryz.sizeOf5
  v5 := Tryz.zeroValue5
  t9 := Tryz.underlying9
  a9 := Tryz.isAgg9
  z9 := Tryz.sizeOf9
  v9 := Tryz.zeroValue9
  t20 := Tryz.underlying20
  a20 := Tryz.isAgg20
  z20 := Tryz.sizeOf20
  v20 := Tryz.zeroValue20
  t21 := Tryz.underlying21
  a21 := Tryz.isAgg21
  z21 := Tryz.sizeOf21
  v21 := Tryz.zeroValue21
  t37 := Tryz.underlying30
  a37 := Tryz.isAgg30
  z37 := Tryz.sizeOf30
  v37 := Tryz.zeroValue30
  t46 := Tryz.underlying81
  a46 := Tryz.isAgg81
  z46 := Tryz.sizeOf81
  v46 := Tryz.zeroValue81
  t51 := Tryz.underlying126
  a51 := Tryz.isAgg126
  z51 := Tryz.sizeOf126
  v51 := Tryz.zeroValue126
  t53 := Tryz.underlying74
  a53 := Tryz.isAgg74
  z53 := Tryz.sizeOf74
  v53 := Tryz.zeroValue74
  t75 := Tryz.underlying96
  a75 := Tryz.isAgg96
  z75 := Tryz.sizeOf96
  v75 := Tryz.zeroValue96
  t85 := Tryz.underlying107
  a85 := Tryz.isAgg107
  z85 := Tryz.sizeOf107
  v85 := Tryz.zeroValue107
  t127 := Tryz.underlying109
  a127 := Tryz.isAgg109
  z127 := Tryz.sizeOf109
  v127 := Tryz.zeroValue109
  t143 := Tryz.underlying146
  a143 := Tryz.isAgg146
  z143 := Tryz.sizeOf146
  v143 := Tryz.zeroValue146
  t145 := Tryz.underlying148
  a145 := Tryz.isAgg148
  z145 := Tryz.sizeOf148
  v145 := Tryz.zeroValue148
  t167 := Tryz.underlying129
  a167 := Tryz.isAgg129
  z167 := Tryz.sizeOf129
  v167 := Tryz.zeroValue129
  t168 := Tryz.underlying132
  a168 := Tryz.isAgg132
  z168 := Tryz.sizeOf132
  v168 := Tryz.zeroValue132
  t171 := Tryz.underlying114
  a171 := Tryz.isAgg114
  z171 := Tryz.sizeOf114
  v171 := Tryz.zeroValue114
  t173 := Tryz.underlying117
  a173 := Tryz.isAgg117
  z173 := Tryz.sizeOf117
  v173 := Tryz.zeroValue117
  t175 := Tryz.underlying130
  a175 := Tryz.isAgg130
  z175 := Tryz.sizeOf130
  v175 := Tryz.zeroValue130
  t210 := Tryz.underlying143
  a210 := Tryz.isAgg143
  z210 := Tryz.sizeOf143
  v210 := Tryz.zeroValue143
  t212 := Tryz.underlying136
  a212 := Tryz.isAgg136
  z212 := Tryz.sizeOf136
  v212 := Tryz.zeroValue136
  t213 := Tryz.underlying137
  a213 := Tryz.isAgg137
  z213 := Tryz.sizeOf137
  t232 := Tryz.underlying149
  a232 := Tryz.isAgg149
  z232 := Tryz.sizeOf149
  v232 := Tryz.zeroValue149
  t233 := Tryz.underlying150
  a233 := Tryz.isAgg150
  z233 := Tryz.sizeOf150
  v233 := Tryz.zeroValue150
  g15 := by kernel_rfl
  g16 := by kernel_rfl
  g17 := by kernel_rfl
  g18 := by kernel_rfl
  g19 := by kernel_rfl
  t80 := Tryz.underlying99
  a80 := Tryz.isAgg99
  z80 := Tryz.sizeOf99
  v80 := Tryz.zeroValue99
  i0 := by kernel_rfl
  i2 := by kernel_rfl
  i3 := by kernel_rfl
  i4 := by kernel_rfl
  i5 := by kernel_rfl
  i9 := by kernel_rfl
  i20 := by kernel_rfl
  i21 := by kernel_rfl
  i37 := by kernel_rfl
  i46 := by kernel_rfl
  i51 := by kernel_rfl
  i53 := by kernel_rfl
  i75 := by kernel_rfl
  i80 := by kernel_rfl
  i85 := by kernel_rfl
  i127 := by kernel_rfl
  i143 := by kernel_rfl
  i145 := by kernel_rfl
  i167 := by kernel_rfl
  i168 := by kernel_rfl
  i171 := by kernel_rfl
  i173 := by kernel_rfl
  i175 := by kernel_rfl
  i210 := by kernel_rfl
  i212 := by kernel_rfl
  i232 := by kernel_rfl
  i233 := by kernel_rfl
  m15 := by kernel_rfl
  m16 := by kernel_rfl
  m17 := by kernel_rfl
  m18 := by kernel_rfl
  m19 := by kernel_rfl
  c0 := by kernel_rfl
  c2 := by kernel_rfl
  c3 := by kernel_rfl
  c4 := by kernel_rfl
  c5 := by kernel_rfl
  c9 := by kernel_rfl
  c20 := by kernel_rfl
  c21 := by kernel_rfl
  c37 := by kernel_rfl
  c46 := by kernel_rfl
  c51 := by kernel_rfl
  c53 := by kernel_rfl
  c75 := by kernel_rfl
  c80 := by kernel_rfl
  c85 := by kernel_rfl
  c127 := by kernel_rfl
  c143 := by kernel_rfl
  c145 := by kernel_rfl
  c167 := by kernel_rfl
  c168 := by kernel_rfl
  c171 := by kernel_rfl
  c173 := by kernel_rfl
  c175 := by kernel_rfl
  c210 := by kernel_rfl
  c212 := by kernel_rfl
  c213 := by kernel_rfl
  c232 := by kernel_rfl
  c233 := by kernel_rfl }
def Tryz.lays146_ren : Go.Shelf.Ren := ⟨fun | 146 => 21 | 221 => 45 | 268 => 64 | 138 => 65 | 143 => 66 | 195 => 85 | 197 => 86 | 218 => 87 | 219 => 88 | 260 => 96 | 217 => 97 | 225 => 98 | 224 => 99 | 267 => 100 | 266 => 111 | 314 => 112 | n => n, fun | 9 => 9 | 31 => 37 | 3 => 3 | 4 => 4 | 0 => 0 | 105 => 104 | 21 => 21 | 5 => 5 | 46 => 81 | 119 => 122 | 139 => 125 | 138 => 124 | 146 => 127 | 51 => 126 | n => n, fun | 1 => 0 | 3 => 1 | 4 => 2 | n => n⟩
theorem Tryz.lays146 : Go.Proofs.Lays.n146 Tryz.prog Tryz.lays146_ren := {
  mixed := by kernel_rfl
  f138 := Tryz.func65.trans (congrArg some (by kernel_rfl))
  f143 := Tryz.func66.trans (congrArg some (by kernel_rfl))
  f146 := Tryz.func21.trans (congrArg some (by kernel_rfl))
  f195 := Tryz.func85.trans (congrArg some (by kernel_rfl))
  f197 := Tryz.func86.trans (congrArg some (by kernel_rfl))
  f217 := Tryz.func97.trans (congrArg some (by kernel_rfl))
  f218 := Tryz.func87.trans (congrArg some (by kernel_rfl))
  f219 := Tryz.func88.trans (congrArg some (by kernel_rfl))
  f221 := Tryz.func45.trans (congrArg some (by kernel_rfl))
  f224 := Tryz.func99.trans (congrArg some (by kernel_rfl))
  f225 := Tryz.func98.trans (congrArg some (by kernel_rfl))
  f260 := Tryz.func96.trans (congrArg some (by kernel_rfl))
  f266 := Tryz.func111.trans (congrArg some (by kernel_rfl))
  f267 := Tryz.func100.trans (congrArg some (by kernel_rfl))
  f268 := Tryz.func64.trans (congrArg some (by kernel_rfl))
  f314 := Tryz.func112.trans (congrArg some (by kernel_rfl))
  t0 := Tryz.underlying0
  a0 := Tryz.isAgg0
  z0 := Tryz.sizeOf0
  v0 := Tryz.zeroValue0
  t3 := Tryz.underlying3
  a3 := Tryz.isAgg3
  z3 := Tryz.sizeOf3
  v3 := Tryz.zeroValue3
  t4 := Tryz.underlying4
  a4 := Tryz.isAgg4
  z4 := Tryz.sizeOf4
  v4 := Tryz.zeroValue4
  t5 := Tryz.underlying5
  a5 := Tryz.isAgg5
  z5 := Tryz.sizeOf5
  v5 := Tryz.zeroValue5
  t9 := Tryz.underlying9
  a9 := Tryz.isAgg9
  z9 := Tryz.sizeOf9
  v9 := Tryz.zeroValue9
  t21 := Tryz.underlying21
  a21 := Tryz.isAgg21
  z21 := Tryz.sizeOf21
  v21 := Tryz.zeroValue21
  t31 := Tryz.underlying37
  a31 := Tryz.isAgg37
  z31 := Tryz.sizeOf37
  v31 := Tryz.zeroValue37
  t46 := Tryz.underlying81
  a46 := Tryz.isAgg81
  z46 := Tryz.sizeOf81
  v46 := Tryz.zeroValue81
  t51 := Tryz.underlying126
  a51 := Tryz.isAgg126
  z51 := Tryz.sizeOf126
  v51 := Tryz.zeroValue126
  t105 := Tryz.underlying104
  a105 := Tryz.isAgg104
  z105 := Tryz.sizeOf104
  v105 := Tryz.zeroValue104
  t119 := Tryz.underlying122
  a119 := Tryz.isAgg122
  z119 := Tryz.sizeOf122
  t138 := Tryz.underlying124
  a138 := Tryz.isAgg124
  z138 := Tryz.sizeOf124
  v138 := Tryz.zeroValue124
  t139 := Tryz.underlying125
  a139 := Tryz.isAgg125
  z139 := Tryz.sizeOf125
  v139 := Tryz.zeroValue125
  t146 := Tryz.underlying127
  a146 := Tryz.isAgg127
  z146 := Tryz.sizeOf127
  v146 := Tryz.zeroValue127
  g1 := by kernel_rfl
  g3 := by kernel_rfl
  g4 := by kernel_rfl }
def Tryz.lays145_ren : Go.Shelf.Ren := ⟨fun | 145 => 46 | 220 => 67 | 219 => 88 | 217 => 97 | 225 => 98 | 224 => 99 | 267 => 100 | 266 => 111 | 314 => 112 | n => n, fun | 9 => 9 | 4 => 4 | 59 => 67 | 3 => 3 | 5 => 5 | 46 => 81 | 146 => 127 | 51 => 126 | n => n, fun | 1 => 0 | n => n⟩
theorem Tryz.lays145 : Go.Proofs.Lays.n145 Tryz.prog Tryz.lays145_ren := {
  mixed := by kernel_rfl
  f145 := Tryz.func46.trans (congrArg some (by kernel_rfl))
  f217 := Tryz.func97.trans (congrArg some (by kernel_rfl))
  f219 := Tryz.func88.trans (congrArg some (by kernel_rfl))
  f220 := Tryz.func67.trans (congrArg some (by kernel_rfl))
  f224 := Tryz.func99.trans (congrArg some (by kernel_rfl))
  f225 := Tryz.func98.trans (congrArg some (by kernel_rfl))
  f266 := Tryz.func111.trans (congrArg some (by kernel_rfl))
  f267 := Tryz.func100.trans (congrArg some (by kernel_rfl))
  f314 := Tryz.func112.trans (congrArg some (by kernel_rfl))
  t3 := Tryz.underlying3
  a3 := Tryz.isAgg3
  z3 := Tryz.sizeOf3
  v3 := Tryz.zeroValue3
  t4 := Tryz.underlying4
  a4 := Tryz.isAgg4
  z4 := Tryz.sizeOf4
  v4 := Tryz.zeroValue4
  t5 := Tryz.underlying5
  a5 := Tryz.isAgg5
  z5 := Tryz.sizeOf5
  v5 := Tryz.zeroValue5
  t9 := Tryz.underlying9
  a9 := Tryz.isAgg9
  z9 := Tryz.sizeOf9
  v9 := Tryz.zeroValue9
  t46 := Tryz.underlying81
  a46 := Tryz.isAgg81
  z46 := Tryz.sizeOf81
  v46 := Tryz.zeroValue81
  t51 := Tryz.underlying126
  a51 := Tryz.isAgg126
  z51 := Tryz.sizeOf126
  v51 := Tryz.zeroValue126
  t59 := Tryz.underlying67
  a59 := Tryz.isAgg67
  z59 := Tryz.sizeOf67
  v59 := Tryz.zeroValue67
  t146 := Tryz.underlying127
  a146 := Tryz.isAgg127
  z146 := Tryz.sizeOf127
  v146 := Tryz.zeroValue127
  g1 := by kernel_rfl }
def Tryz.lays103_ren : Go.Shelf.Ren := ⟨fun | 103 => 68 | 210 => 89 | 206 => 101 | n => n, fun | 9 => 9 | 4 => 4 | 24 => 85 | 3 => 3 | n => n, fun | n => n⟩
theorem Tryz.lays103 : Go.Proofs.Lays.n103 Tryz.prog Tryz.lays103_ren := {
  mixed := by kernel_rfl
  f103 := Tryz.func68.trans (congrArg some (by kernel_rfl))
  f206 := Tryz.func101.trans (congrArg some (by kernel_rfl))
  f210 := Tryz.func89.trans (congrArg some (by kernel_rfl))
  t3 := Tryz.underlying3
  a3 := Tryz.isAgg3
  z3 := Tryz.sizeOf3
  v3 := Tryz.zeroValue3
  t4 := Tryz.underlying4
  a4 := Tryz.isAgg4
  z4 := Tryz.sizeOf4
  v4 := Tryz.zeroValue4
  t9 := Tryz.underlying9
  a9 := Tryz.isAgg9
  z9 := Tryz.sizeOf9
  v9 := Tryz.zeroValue9
  t24 := Tryz.underlying85
  a24 := Tryz.isAgg85
  z24 := Tryz.sizeOf85
  v24 := Tryz.zeroValue85 }
end Go.Proofs

set_option maxRecDepth 100000
set_option linter.unusedVariables false
set_option linter.unusedSimpArgs false
namespace Go.Proofs.YtnnfjjadehgmeaaGreatDoor
open Go.RowKit

abbrev tStr : TypeId := 9
theorem T_str : ElemT Tryz.prog 37 tStr (.string .empty) 16 := ⟨Tryz.underlying37, by kernel_rfl, rfl, by omega⟩
def strs (ls : List (List UInt8)) : List Value := ls.map strB
theorem strs_len (ls : List (List UInt8)) : (strs ls).length = ls.length := by unfold strs; simp
theorem strs_snoc (ls : List (List UInt8)) (x : List UInt8) : strs ls ++ [strB x] = strs (ls ++ [x]) := by unfold strs; simp
theorem str_open {w : World} {B : Nat} {v : Value} {ls : List (List UInt8)} (h : Own w B tStr v (strs ls)) (h0 : 1 ≤ ls.length) : ∃ g c, v = .slice (some ⟨g, 0, none⟩) ls.length c := by
  rcases h.cases with ⟨_, h1⟩ | ⟨g, cap, cur, hv, _⟩
  · have := congrArg List.length h1
    rw [strs_len, List.length_nil] at this
    omega
  · exact ⟨g, cap, by rw [hv, strs_len]⟩
theorem lib_Join (w : World) (B g cp : Nat) (ls : List (List UInt8)) (sb : UInt8) (ho : Own w B tStr (.slice (some ⟨g, 0, none⟩) ls.length cp) (strs ls)) (hlen : (Lib.join ls [sb]).length ≤ 140737488355328) (hn : ls.length ≤ 140737488355328) :
    Calls Tryz.prog 49 #[.slice (some ⟨g, 0, none⟩) ls.length cp, .string ⟨#[sb]⟩] w fun e w' => e = .returned (strB (Lib.join ls [sb])) ∧ Below w.heap.size w w' := by
  have hb := ho.lt g rfl
  have hcap : ls.length ≤ cp := by
    rcases ho.cases with ⟨h, _⟩ | ⟨g', cap', cur, hv, _, _, _, h4, _⟩
    · cases h
    · simp only [Value.slice.injEq] at hv
      rw [strs_len] at h4
      rw [hv.2.2]; exact h4
  have hm : (ls.map fun l => (⟨l.toArray⟩ : ByteArray)).map (·.data.toList) = ls := by rw [List.map_map]; exact (List.map_congr_left (g := id) fun l _ => by simp).trans (List.map_id ls)
  have h := Any.strings_Join Tryz.lays156 Tryz.Builder_Extra_156 g 0 cp (ls.map fun l => (⟨l.toArray⟩ : ByteArray)) ⟨#[sb]⟩ w (fun j x hj => by
      rw [List.getElem?_map, Option.map_eq_some_iff] at hj
      obtain ⟨l, hl, rfl⟩ := hj
      have hc := World.ownsRow.cells ho (g := g) rfl j (strB l) (by unfold strs; rw [List.getElem?_map, hl]; rfl)
      rw [addr_add] at hc
      simpa using hc) hb (by simpa using hn) (by simpa using hcap) (by rw [hm]; exact hlen)
  rw [hm, List.length_map] at h
  exact h
/-- the texts of the monomials of a part -/
def tmsL (ms : List Mono) : List (List UInt8) := if ms.length = 0 then [[48]] else ms.map mTx
theorem tmsL_len (ms : List Mono) : 1 ≤ (tmsL ms).length ∧ (tmsL ms).length ≤ ms.length + 1 := by
  unfold tmsL
  split
  · simp
  · simp; omega
theorem parTx_join (ms : List Mono) : Lib.join (tmsL ms) [43] = parTx ms := by
  unfold tmsL parTx
  by_cases h : ms = []
  · subst h; simp [Lib.join_one]
  · rw [if_neg h, if_neg fun e => h (List.eq_nil_of_length_eq_zero e)]
theorem rune_str (e : Int) (h0 : 0 ≤ e) (h1 : e ≤ 3) (W : World) : (convert 21 9 (.int .i32 (48 + e))).run Tryz.prog W = .ok (strB [digB e]) W := by
  have h : e = 0 ∨ e = 1 ∨ e = 2 ∨ e = 3 := by omega
  rcases h with rfl | rfl | rfl | rfl <;> rfl
set_option maxHeartbeats 8000000 in
theorem i_fieldText (w : World) (v : Value) (n : Int) (pss : List (List Mono)) (ha : FieldArg w v n pss) (hF : fieldB n pss = true) (hs : ∀ ms ∈ pss, ms.length ≤ 4294967296) (ht : PowTab w) :
    Calls Tryz.prog 24 #[v] w fun e w' => e = .returned (strB (fldTx pss)) ∧ Below w.heap.size w w' := by
  obtain ⟨hp1, hpl, hmon⟩ := fieldB_mono hF
  obtain ⟨vp, rfl, hn64, hP⟩ := ha
  obtain ⟨A, c, rfl, l1, l2, h3⟩ := hP.open_
  have H3 := Lib.hid h3
  have HS := Lib.hid hs
  have HMN := Lib.hid hmon
  have HT := Lib.hid ht
  clear hP h3 hs hmon hF hn64 ht
  obtain ⟨wb, hwb⟩ : ∃ wb, wb = w.alloc (.cells #[.int .i64 n, .slice A pss.length c] 24) := ⟨_, rfl⟩
  have HBB := Lib.hid (show Below w.heap.size w wb by rw [hwb]; exact below1 w _)
  have KB := Lib.hid (show Blk wb w.heap.size 24 #[.int .i64 n, .slice A pss.length c] by rw [hwb]; exact Blk.new _ _ _)
  have OL := Lib.hid (show Own (wb.alloc (.cells #[] tStr)) wb.heap.size tStr (.slice (some ⟨wb.heap.size, 0, none⟩) 0 0) (strs ((pss.take 0).map parTx)) from own_lit wb tStr [] (by simp [maxLen]))
  go_enter Tryz.func24, Tryz.ntmps24
  go_upto_region 1 with fail
  rw [← hwb]
  clear hwb
  have kb : (wb.alloc (.cells #[] tStr)).cell? ⟨w.heap.size, 1, none⟩ = some (.slice A pss.length c) := (KB.out.alloc _).cell 1
  go_wp2_with fail
  clear kb
  go_loopw [3, 16] (fun p i wr => ∃ j : Nat, j ≤ pss.length ∧ i = .int .i64 j ∧ Own wr wb.heap.size tStr p (strs ((pss.take j).map parTx)) ∧ Below wb.heap.size wb wr) (fun _ i _ => pss.length - (intOf i).toNat)
  case atStart => exact ⟨0, Nat.zero_le _, rfl, OL.out, below1 wb _⟩
  case round =>
    obtain ⟨j, hj, rfl, ho, hb⟩ := hrel
    rename World => wq
    clear OL
    have hel : ((pss.take j).map parTx).length = j := by rw [List.length_map, List.length_take]; omega
    have hol := ho.cells.open_
    rw [strs_len, hel] at hol
    obtain ⟨Ao, co, rfl, -, -⟩ := hol
    have HEL := Lib.hid hel
    have HO := Lib.hid ho
    have HBQ := Lib.hid hb
    have HWQ := Lib.hid (HBB.out.trans (hb.mono HBB.out.size))
    clear ho hb hel
    by_cases hlt : j < pss.length
    · obtain ⟨ad, u, ms, rfl, hm, hu, hc0⟩ := H3.out j hlt
      obtain ⟨A5, c5, rfl, p1, p2, hu3⟩ := hu.open_
      have HU := Lib.hid hu3
      have HM := Lib.hid hm
      have HSM := Lib.hid (HMN.out ms (List.mem_of_getElem? hm))
      have hms := HS.out ms (List.mem_of_getElem? hm)
      have hc1 : wq.cell? (ad.add j) = some (.slice A5 ms.length c5) := by rw [HWQ.out.cell (by rw [block_add]; have := World.block_lt_of_cell? w _ hc0; rwa [block_add] at this)]; exact hc0
      have OT := Lib.hid (show Own (wq.alloc (.cells #[] tStr)) wq.heap.size tStr (.slice (some ⟨wq.heap.size, 0, none⟩) 0 0) (strs ((ms.take 0).map mTx)) from own_lit wq tStr [] (by simp [maxLen]))
      clear hm hu hc0 hu3
      go_wp2_with fail
      clear hc1
      go_loopw [6, 23] (fun ts i wi => ∃ k : Nat, k ≤ ms.length ∧ i = .int .i64 k ∧ Own wi wq.heap.size tStr ts (strs ((ms.take k).map mTx)) ∧ Below wq.heap.size wq wi) (fun _ i _ => ms.length - (intOf i).toNat)
      case atStart => exact ⟨0, Nat.zero_le _, rfl, OT.out, below1 wq _⟩
      case round =>
        obtain ⟨k, hk, rfl, ho, hb⟩ := hrel
        rename World => wi
        clear OT
        have hel : ((ms.take k).map mTx).length = k := by rw [List.length_map, List.length_take]; omega
        have hol := ho.cells.open_
        rw [strs_len, hel] at hol
        obtain ⟨At, ct, rfl, -, -⟩ := hol
        have HELK := Lib.hid hel
        have HOT := Lib.hid ho
        have HBI := Lib.hid hb
        have HWI := Lib.hid (HWQ.out.trans (hb.mono HWQ.out.size))
        clear ho hb hel
        by_cases hlt2 : k < ms.length
        · obtain ⟨bm, om, m, um, rfl, hmk, hf64, hum, hcf, hcu⟩ := HU.out k hlt2
          obtain ⟨f, ps⟩ := m
          have hab : bm < w.heap.size := World.block_lt_of_cell? w _ hcf
          obtain ⟨Ap, cp, rfl, hp1', hp2, hup⟩ := hum.open_
          simp only at hcu hcf hum hp1' hup
          have q0 : wi.cell? ⟨bm, om + k * 2, none⟩ = some (.int .i64 f) := by rw [HWI.out.cell (by exact hab)]; exact hcf
          have q1 : wi.cell? ⟨bm, om + k * 2 + 1, none⟩ = some (.slice Ap ps.length cp) := by rw [HWI.out.cell (by exact hab)]; exact hcu
          have HUP := Lib.hid hup
          have HMK := Lib.hid hmk
          obtain ⟨hf1, hf2, hpl3, hpe⟩ := HSM.out (f, ps) (List.mem_of_getElem? hmk)
          simp only at hf1 hf2 hpl3 hpe
          have HPE := Lib.hid hpe
          have hki : (k : Int) < (ms.length : Int) := by omega
          clear hmk hf64 hum hcf hcu hup hpe
          obtain ⟨wm, hwm⟩ : ∃ wm, wm = wi.alloc (.cells #[.int .i64 f, .slice Ap ps.length cp] 44) := ⟨_, rfl⟩
          have HBM := Lib.hid (show Below wq.heap.size wq wm by rw [hwm]; exact HBI.out.alloc HBI.out.size _)
          have KM := Lib.hid (show Blk wm wi.heap.size 44 #[.int .i64 f, .slice Ap ps.length cp] by rw [hwm]; exact Blk.new _ _ _)
          have HOM := Lib.hid (show Own wm wq.heap.size tStr (.slice At k ct) (strs ((ms.take k).map mTx)) by rw [hwm]; exact HOT.out.alloc _)
          go_upto_region 9 with fail
          rw [← hwm]
          clear hwm q0 q1
          have m0 : wm.cell? ⟨wi.heap.size, 0, none⟩ = some (.int .i64 f) := KM.out.cell 0
          have hNl := numTx_len (a := f) (by omega) hf2
          have HNTX := Lib.hid (i_numberText f wm (by omega) hf2 (powTab_below HT.out (HWQ.out.trans (HBM.out.mono HWQ.out.size))))
          obtain ⟨NT, hNT⟩ : ∃ NT, NT = numTx f := ⟨_, rfl⟩
          rw [← hNT] at hNl HNTX
          have HNT := Lib.hid hNT
          clear hNT
          have hb3 : ¬ (9223372036854775807 < NT.length + 1) := by omega
          go_upto_region 10 with (go_at_call 48; refine HNTX.out.mono ?_; rintro e w2 ⟨rfl, hb2⟩; have HB2 := Lib.hid hb2; clear hb2)
          clear m0
          have m1 : w2.cell? ⟨wi.heap.size, 1, none⟩ = some (.slice Ap ps.length cp) := (KM.out.below HB2.out KM.out.lt).cell 1
          have HO2 := Lib.hid (HOM.out.below HB2.out)
          have HBW2 := Lib.hid (HBM.out.trans (HB2.out.mono HBM.out.size))
          have HW2 := Lib.hid (HWQ.out.trans (HBW2.out.mono HWQ.out.size))
          go_wp2_with fail
          clear m1
          obtain ⟨X3, hX3⟩ : ∃ X3, X3 = NT ++ [58] := ⟨_, rfl⟩
          have hX3l : X3.length ≤ 10101 := by rw [hX3]; simp; omega
          have hX3s : Value.string ((⟨NT.toArray⟩ : ByteArray) ++ ⟨#[58]⟩) = strB X3 := by rw [hX3, str_cat2]
          have HX3 := Lib.hid hX3
          clear hX3
          go_loopw [9, 34] (fun t i wx => ∃ (q : Nat) (Y : List UInt8), q ≤ ps.length ∧ i = .int .i64 q ∧ t = strB Y ∧ Hid (Y = X3 ++ (ps.take q).map digB) ∧ Y.length ≤ 10101 + q ∧ wx = w2) (fun _ i _ => ps.length - (intOf i).toNat)
          case atStart => exact ⟨0, X3, Nat.zero_le _, rfl, by first | rfl | exact hX3s, Lib.hid (by simp), by omega, rfl⟩
          case round =>
            obtain ⟨q, Y, hq, rfl, rfl, hY, hYl, rfl⟩ := hrel
            clear hX3s
            by_cases hlt3 : q < ps.length
            · obtain ⟨ap, e, rfl, he, he64, hce⟩ := HUP.out q hlt3
              have hce2 := (HW2.out.cell (show (ap.add q).block < w.heap.size from by rw [block_add]; have := World.block_lt_of_cell? w _ hce; rwa [block_add] at this)).trans hce
              have hqi : (q : Int) < (ps.length : Int) := by omega
              obtain ⟨hee0, hee1⟩ := HPE.out e (List.mem_of_getElem? he)
              have hrs := fun W => rune_str e hee0 hee1 W
              have HTK := Lib.hid (show (ps.take (q + 1)).map digB = (ps.take q).map digB ++ [digB e] by rw [List.take_add_one, he]; simp)
              clear he he64 hce
              have hb5 : ¬ (9223372036854775807 < Y.length + 1) := by omega
              go_wp2_with fail
              clear hce2 hrs
              go_roundw
              case rel => exact ⟨q + 1, Y ++ [digB e], by omega, by go_num, congrArg Value.string (str_cat Y [digB e]), Lib.hid (by rw [hY.out, HTK.out, List.append_assoc]), by rw [len1]; omega, trivial⟩
              case measure => simp [intOf]; omega
            · have hqe : q = ps.length := by omega
              subst hqe
              have HFN := Lib.hid (show Y = mTx (f, ps) by rw [hY.out, HX3.out, HNT.out, List.take_length]; simp [mTx])
              go_wp2_with (at_builtin; go_loud (refine wpList_app1 T_str HO2.out (by rw [strs_len, HELK.out]; omega) HBW2.out.size (by rfl) rfl (by rfl) (by rfl) (by rfl) ?_; intro v3 w3 hown3 hgr3; have HN3 := Lib.hid hown3; have HR3 := Lib.hid hgr3; clear hown3 hgr3))
              go_roundw
              case rel =>
                refine ⟨k + 1, by omega, by go_num, ?_, HR3.out.below HBW2.out HBW2.out.size HO2.out.ge⟩
                have h := HN3.out
                rw [strs_snoc, HFN.out] at h
                rw [List.take_add_one, HMK.out]
                simpa using h
              case measure => simp [intOf]; omega
        · have hke : k = ms.length := by omega
          subst hke
          have hol2 := HOT.out
          rw [List.take_length] at hol2
          have HOT2 := Lib.hid hol2
          clear hol2 HOT HELK
          go_upto_if 52 with fail
          go_cut [6, 16] from 16 to 61 (fun x i wx => i = .int .i64 j ∧ ∃ g cx, x = .slice (some ⟨g, 0, none⟩) (tmsL ms).length cx ∧ Own wx wq.heap.size tStr (.slice (some ⟨g, 0, none⟩) (tmsL ms).length cx) (strs (tmsL ms)) ∧ Below wq.heap.size wq wx)
          case first =>
            by_cases hm0 : ms.length = 0
            · have HE := Lib.hid (show strs (ms.map mTx) ++ [strB [48]] = strs (tmsL ms) by unfold tmsL; rw [if_pos hm0, List.eq_nil_of_length_eq_zero hm0]; rfl)
              have HM0 := Lib.hid hm0
              have hmb : ((ms.length : Int) == 0) = true := by simp [hm0]
              clear hm0
              go_wp2_with (at_builtin; go_loud (refine wpList_app1 (u := strB [48]) T_str HOT2.out (by rw [strs_len, List.length_map]; omega) HBI.out.size (by rfl) rfl (by rfl) (by rfl) (by rfl) ?_; intro v3 w3 hown3 hgr3; have HN3 := Lib.hid hown3; have HR3 := Lib.hid hgr3; clear hown3 hgr3))
              go_meet
              have h := HN3.out
              rw [HE.out] at h
              obtain ⟨g, cx, rfl⟩ := str_open h (tmsL_len ms).1
              exact ⟨rfl, g, cx, rfl, h, HR3.out.below HBI.out HBI.out.size HOT2.out.ge⟩
            · have HE := Lib.hid (show ms.map mTx = tmsL ms by unfold tmsL; rw [if_neg hm0])
              have HM0 := Lib.hid hm0
              have hmb : ((ms.length : Int) == 0) = false := by rw [beq_eq_false_iff_ne]; omega
              clear hm0
              go_wp2_with fail
              go_meet
              have h := HOT2.out
              rw [HE.out] at h
              obtain ⟨g, cx, hx⟩ := str_open h (tmsL_len ms).1
              rw [hx] at h
              exact ⟨rfl, g, cx, hx, h, HBI.out⟩
          case rest =>
            obtain ⟨rfl, g, cx, rfl, ho7, hb7⟩ := hcut
            rename World => wz
            have HTL := tmsL_len ms
            have hpt : (parTx ms).length ≤ ms.length * 10105 + 1 := parTx_len fun m hm => by have := HSM.out m hm; exact ⟨by omega, this.2.1, this.2.2.1⟩
            have HJ := Lib.hid (lib_Join wz wq.heap.size g cx (tmsL ms) 43 ho7 (by rw [parTx_join]; omega) (by omega))
            rw [parTx_join] at HJ
            have HB7 := Lib.hid hb7
            have HOZ := Lib.hid (HO.out.below hb7)
            have HBZ := Lib.hid (HBQ.out.trans (hb7.mono HBQ.out.size))
            clear HTL ho7 hb7 hpt
            go_wp2_with (first
              | (go_at_call 49; refine HJ.out.mono ?_; rintro e w8 ⟨rfl, hb8⟩; have HB8 := Lib.hid hb8; clear hb8)
              | (at_builtin; go_loud (refine wpList_app1 T_str (HOZ.out.below HB8.out) (by rw [strs_len, HEL.out]; omega) (Nat.le_trans HBZ.out.size HB8.out.size) (by rfl) rfl (by rfl) (by rfl) (by rfl) ?_; intro v3 w3 hown3 hgr3; have HN3 := Lib.hid hown3; have HR3 := Lib.hid hgr3; clear hown3 hgr3)))
            go_roundw
            case rel =>
              refine ⟨j + 1, by omega, by go_num, ?_, HR3.out.below (HBZ.out.trans (HB8.out.mono HBZ.out.size)) (Nat.le_trans HBZ.out.size HB8.out.size) HO.out.ge⟩
              have h := HN3.out
              rw [strs_snoc] at h
              rw [List.take_add_one, HM.out]
              simpa using h
            case measure => simp [intOf]; omega
    · have hje : j = pss.length := by omega
      subst hje
      have ho2 := HO.out
      rw [List.take_length] at ho2
      obtain ⟨g, cx, hx⟩ := str_open ho2 (by rw [List.length_map]; exact hp1)
      rw [List.length_map] at hx
      simp only [Value.slice.injEq, true_and] at hx
      obtain ⟨rfl, rfl⟩ := hx
      have hft : (fldTx pss).length ≤ 140737488355328 := by
        have h1 := join_len (c := 43400644526081) (sep := [59]) (pss.map parTx) (fun x hx => by
          obtain ⟨ms, hms, rfl⟩ := List.mem_map.1 hx
          have h2 := parTx_len (ms := ms) fun m hm => by have := HMN.out ms hms m hm; exact ⟨by omega, this.2.1, this.2.2.1⟩
          have h3 := HS.out ms hms
          omega)
        rw [List.length_map] at h1
        simp only [List.length_cons, List.length_nil] at h1
        unfold fldTx
        have h4 := Nat.mul_le_mul_right (43400644526081 + (0 + 1)) hpl
        omega
      have hj := lib_Join wq wb.heap.size g co (pss.map parTx) 59 (by rw [List.length_map]; exact ho2) hft (by rw [List.length_map]; omega)
      rw [List.length_map] at hj
      have HJ := Lib.hid hj
      clear hj ho2 hft
      go_wp2_with (go_at_call 49; refine HJ.out.mono ?_; rintro e w8 ⟨rfl, hb8⟩; have HB8 := Lib.hid hb8; clear hb8)
      go_ret
      exact ⟨rfl, HWQ.out.trans (HB8.out.mono HWQ.out.size)⟩
end Go.Proofs.YtnnfjjadehgmeaaGreatDoor

set_option maxRecDepth 100000
set_option linter.unusedVariables false
set_option linter.unusedSimpArgs false
namespace Go.Proofs.YtnnfjjadehgmeaaGreatDoor
open Go.RowKit

theorem splB_at {b : UInt8} {l : List UInt8} {a i : Nat} {xs : List (List UInt8)} (h : splB b l = xs ++ splB b (l.drop a)) (hno : ∀ j, a ≤ j → j < i → l[j]? ≠ some b) (hi : l[i]? = some b) (hle : a ≤ i) : splB b l = (xs ++ [(l.drop a).take (i - a)]) ++ splB b (l.drop (i + 1)) := by
  have hlt := (List.getElem?_eq_some_iff.1 hi).1
  have e : l.drop a = (l.drop a).take (i - a) ++ b :: l.drop (i + 1) := by
    conv => lhs; rw [← List.take_append_drop (i - a) (l.drop a)]
    rw [List.drop_drop, show a + (i - a) = i by omega, List.drop_eq_getElem_cons hlt, (List.getElem?_eq_some_iff.1 hi).2]
  rw [h]
  conv => lhs; rw [e]
  rw [splB_cons, List.append_assoc]
  · rfl
  · intro x hx ex
    obtain ⟨j, hj, hx⟩ := List.getElem_of_mem hx
    rw [List.length_take, List.length_drop] at hj
    refine hno (a + j) (by omega) (by omega) ?_
    rw [List.getElem_take, List.getElem_drop] at hx
    rw [List.getElem?_eq_getElem (by omega), hx, ex]
theorem splB_end {b : UInt8} {l : List UInt8} {a : Nat} {xs : List (List UInt8)} (h : splB b l = xs ++ splB b (l.drop a)) (hno : ∀ j, a ≤ j → j < l.length → l[j]? ≠ some b) : splB b l = xs ++ [l.drop a] := by
  rw [h]
  conv => lhs; rw [splB_one (fun x hx ex => by
    obtain ⟨j, hj, hx⟩ := List.getElem_of_mem hx
    rw [List.length_drop] at hj
    rw [List.getElem_drop] at hx
    exact hno (a + j) (by omega) (by omega) (by rw [List.getElem?_eq_getElem (by omega), hx, ex]))]
theorem str_ix {l : List UInt8} {k : Nat} {c : UInt8} (h : l[k]? = some c) : ∀ hk : k < (⟨l.toArray⟩ : ByteArray).size, (⟨l.toArray⟩ : ByteArray)[k]'hk = c := fun hk => by
  obtain ⟨h1, h2⟩ := List.getElem?_eq_some_iff.1 h
  rw [← h2]
  rfl
theorem str_ex (l : List UInt8) (a k : Nat) : (⟨l.toArray⟩ : ByteArray).extract a k = ⟨((l.drop a).take (k - a)).toArray⟩ := by
  apply ByteArray.ext
  simp
set_option maxHeartbeats 4000000 in
theorem s_l01Split (w : World) (l : List UInt8) (b : UInt8) (hl : l.length ≤ 4294967000) :
    Calls Tryz.prog 17 #[strB l, .int .u8 (b.toNat : Nat)] w fun e w' => ∃ v, e = .returned v ∧ Own w' w.heap.size tStr v (strs (splB b l)) ∧ Below w.heap.size w w' := by
  have OL := Lib.hid (show Own (w.alloc (.cells #[] tStr)) w.heap.size tStr (.slice (some ⟨w.heap.size, 0, none⟩) 0 0) (strs []) from own_lit w tStr [] (by simp [maxLen]))
  go_enter Tryz.func17, Tryz.ntmps17
  go_wp2_with fail
  go_loopw [5, 6, 7] (fun o at_ i wr => ∃ (xs : List (List UInt8)) (a k : Nat), a ≤ k ∧ k ≤ l.length ∧ at_ = .int .i64 a ∧ i = .int .i64 k ∧ Own wr w.heap.size tStr o (strs xs) ∧ Hid (splB b l = xs ++ splB b (l.drop a)) ∧ Hid (∀ j, a ≤ j → j < k → l[j]? ≠ some b) ∧ xs.length ≤ k ∧ Below w.heap.size w wr) (fun _ _ i _ => l.length - (intOf i).toNat)
  case atStart => exact ⟨[], 0, 0, by omega, by omega, rfl, rfl, OL.out, Lib.hid rfl, Lib.hid (fun j _ h => by omega), by simp, below1 w _⟩
  case round =>
    obtain ⟨xs, a, k, hak, hk, rfl, rfl, ho, HS, HNO, hxk, hb⟩ := hrel
    rename World => wq
    clear OL
    have hol := ho.cells.open_
    rw [strs_len] at hol
    obtain ⟨Ao, co, rfl, -, -⟩ := hol
    have HO := Lib.hid ho
    have HB := Lib.hid hb
    clear ho hb
    by_cases hlt : k < l.length
    · have hki : (k : Int) < (l.length : Int) := by omega
      obtain ⟨c, hc⟩ : ∃ c, l[k]? = some c := ⟨_, List.getElem?_eq_getElem hlt⟩
      have hix := str_ix hc
      have HC := Lib.hid hc
      clear hc
      by_cases hcb : c = b
      · have hbb : ((c.toNat : Int) == (b.toNat : Int)) = true := by rw [hcb]; simp
        have HN := Lib.hid (splB_at HS.out HNO.out (by rw [HC.out, hcb]) hak)
        have hex := str_ex l a k
        clear hcb
        go_wp2_with (at_builtin; go_loud (refine wpList_app1 T_str HO.out (by rw [strs_len]; omega) HB.out.size (by rfl) rfl (by rfl) (by rfl) (by rfl) ?_; intro v3 w3 hown3 hgr3; have HN3 := Lib.hid hown3; have HR3 := Lib.hid hgr3; clear hown3 hgr3))
        go_roundw
        case rel =>
          have h := HN3.out
          first | rw [hex, strs_snoc] at h | rw [strs_snoc] at h
          refine ⟨xs ++ [(l.drop a).take (k - a)], k + 1, k + 1, by omega, by omega, by go_num, by go_num, h, Lib.hid (by rw [HN.out]), Lib.hid (fun j h1 h2 => by omega), by simp; omega, HR3.out.below HB.out HB.out.size HO.out.ge⟩
        case measure => simp [intOf]; omega
      · have hbb : ((c.toNat : Int) == (b.toNat : Int)) = false := by
          rw [beq_eq_false_iff_ne]
          intro e
          exact hcb (UInt8.toNat_inj.1 (by omega))
        have HNC := Lib.hid (show ∀ j, a ≤ j → j < k + 1 → l[j]? ≠ some b from fun j h1 h2 => by
          by_cases hj : j = k
          · subst hj; rw [HC.out]; intro e; injection e with e; exact hcb e
          · exact HNO.out j h1 (by omega))
        clear hcb
        go_wp2_with fail
        go_roundw
        case rel => exact ⟨xs, a, k + 1, by omega, by omega, rfl, by go_num, HO.out, HS, HNC, by omega, HB.out⟩
        case measure => simp [intOf]; omega
    · have hke : k = l.length := by omega
      subst hke
      have HN := Lib.hid (splB_end HS.out HNO.out)
      have hex := str_ex l a l.length
      go_wp2_with (at_builtin; go_loud (refine wpList_app1 T_str HO.out (by rw [strs_len]; omega) HB.out.size (by rfl) rfl (by rfl) (by rfl) (by rfl) ?_; intro v3 w3 hown3 hgr3; have HN3 := Lib.hid hown3; have HR3 := Lib.hid hgr3; clear hown3 hgr3))
      go_ret
      refine ⟨_, rfl, ?_, HR3.out.below HB.out HB.out.size HO.out.ge⟩
      have h := HN3.out
      first | rw [hex, strs_snoc] at h | rw [strs_snoc] at h
      rw [HN.out]
      rw [show (l.drop a).take (l.length - a) = l.drop a from List.take_of_length_le (by rw [List.length_drop]; exact Nat.le_refl _)] at h
      exact h
end Go.Proofs.YtnnfjjadehgmeaaGreatDoor

set_option maxRecDepth 100000
set_option linter.unusedVariables false
set_option linter.unusedSimpArgs false
namespace Go.Proofs.YtnnfjjadehgmeaaGreatDoor
open Go.RowKit

theorem valF_step {l : List UInt8} {k : Nat} {c : UInt8} {n : Int} (h : l[k]? = some c) : valF n (l.drop k) = if c.toNat < 48 ∨ 57 < c.toNat then -1 else valF (n * 10 + ((c.toNat : Int) - 48)) (l.drop (k + 1)) := by
  obtain ⟨h1, h2⟩ := List.getElem?_eq_some_iff.1 h
  rw [List.drop_eq_getElem_cons h1, h2, valF]
set_option maxHeartbeats 4000000 in
theorem s_l01Value (w : World) (l : List UInt8) (hl : l.length ≤ 4294967000) :
    Calls Tryz.prog 38 #[strB l] w fun e w' => e = .returned (.int .i64 (valB l)) ∧ ∃ n, w' = w.drewN n := by
  have HV := Lib.hid (show valB l = if l.length = 0 ∨ 9 < l.length ∨ (1 < l.length ∧ l.head? = some 48) then -1 else valF 0 l from rfl)
  by_cases h0 : l.length = 0
  · have h00 : ((l.length : Int) == 0) = true := by rw [h0]; rfl
    have HVV := Lib.hid (show valB l = -1 by rw [HV.out, if_pos (.inl h0)])
    clear h0
    go_enter Tryz.func38, Tryz.ntmps38
    go_wp2_with fail
    go_ret
    exact ⟨by rw [HVV.out]; rfl, 0, rfl⟩
  · have h00 : ((l.length : Int) == 0) = false := by rw [beq_eq_false_iff_ne]; omega
    by_cases h9 : 9 < l.length
    · have h90 : (9 : Int) < (l.length : Int) := by omega
      have HVV := Lib.hid (show valB l = -1 by rw [HV.out, if_pos (.inr (.inl h9))])
      clear h0 h9
      go_enter Tryz.func38, Tryz.ntmps38
      go_wp2_with fail
      go_ret
      exact ⟨by rw [HVV.out]; rfl, 0, rfl⟩
    · have h90 : ¬ (9 : Int) < (l.length : Int) := by omega
      obtain ⟨c0, hc0⟩ : ∃ c, l[0]? = some c := ⟨_, List.getElem?_eq_getElem (by omega)⟩
      have hix0 := str_ix hc0
      have hhd : l.head? = some c0 := by rw [List.head?_eq_getElem?]; exact hc0
      rw [hhd] at HV
      by_cases h1 : 1 < l.length
      · have h10 : (1 : Int) < (l.length : Int) := by omega
        by_cases hz : c0 = 48
        · have hzb : ((c0.toNat : Int) == 48) = true := by rw [hz]; rfl
          have HVV := Lib.hid (show valB l = -1 by rw [HV.out, if_pos (.inr (.inr ⟨h1, by rw [hz]⟩))])
          have h0l : 0 < l.length := by omega
          clear h0 h9 hz hhd hc0 h1
          go_enter Tryz.func38, Tryz.ntmps38
          go_wp2_with fail
          go_ret
          exact ⟨by rw [HVV.out]; rfl, 0, rfl⟩
        · have hzb : ((c0.toNat : Int) == 48) = false := by
            rw [beq_eq_false_iff_ne]
            intro e
            exact hz (UInt8.toNat_inj.1 (by have h48 : (48 : UInt8).toNat = 48 := rfl; omega))
          have HVV := Lib.hid (show valB l = valF 0 l by rw [HV.out, if_neg (fun h => h.elim h0 fun h => h.elim h9 fun h => hz (Option.some.inj h.2))])
          have h0l : 0 < l.length := by omega
          have h9l : l.length ≤ 9 := by omega
          clear h0 h9 hz hhd hc0 HV h1
          go_enter Tryz.func38, Tryz.ntmps38
          go_wp2_with fail
          clear h00 h90 hix0 h10
          go_loopw [3, 4] (fun n i wr => ∃ (N k : Nat), k ≤ l.length ∧ n = .int .i64 N ∧ i = .int .i64 k ∧ Hid (N < 10 ^ k) ∧ Hid (valF 0 l = valF (N : Int) (l.drop k)) ∧ wr = w) (fun _ i _ => l.length - (intOf i).toNat)
          case atStart => exact ⟨0, 0, Nat.zero_le _, rfl, rfl, Lib.hid (by simp), Lib.hid rfl, rfl⟩
          case round =>
            obtain ⟨N, k, hk, rfl, rfl, HN, HF, rfl⟩ := hrel
            by_cases hlt : k < l.length
            · have hki : (k : Int) < (l.length : Int) := by omega
              have hN8 : N < 100000000 := Nat.lt_of_lt_of_le HN.out (Nat.pow_le_pow_right (by decide) (by omega : k ≤ 8))
              obtain ⟨c, hc⟩ : ∃ c, l[k]? = some c := ⟨_, List.getElem?_eq_getElem hlt⟩
              have hix := str_ix hc
              have HS := Lib.hid (HF.out.trans (valF_step hc))
              clear hc
              by_cases hlo : c.toNat < 48
              · have hlo2 : (c.toNat : Int) < 48 := by omega
                have HE := Lib.hid (show valB l = -1 by rw [HVV.out, HS.out, if_pos (.inl hlo)])
                go_wp2_with fail
                go_ret
                exact ⟨by rw [HE.out]; rfl, 0, rfl⟩
              · by_cases hhi : 57 < c.toNat
                · have hlo2 : ¬ (c.toNat : Int) < 48 := by omega
                  have hhi2 : (57 : Int) < (c.toNat : Int) := by omega
                  have HE := Lib.hid (show valB l = -1 by rw [HVV.out, HS.out, if_pos (.inr hhi)])
                  go_wp2_with fail
                  go_ret
                  exact ⟨by rw [HE.out]; rfl, 0, rfl⟩
                · have hlo2 : ¬ (c.toNat : Int) < 48 := by omega
                  have hhi2 : ¬ (57 : Int) < (c.toNat : Int) := by omega
                  have hw8 : IntKind.u8.wrap ((c.toNat : Int) - 48) = (c.toNat : Int) - 48 := IntWalk.u8_in _ (by omega)
                  have HE := Lib.hid (show valF 0 l = valF ((N * 10 + (c.toNat - 48) : Nat) : Int) (l.drop (k + 1)) by
                    rw [HS.out, if_neg (by omega)]
                    congr 1
                    omega)
                  have HP := Lib.hid (show N * 10 + (c.toNat - 48) < 10 ^ (k + 1) by have := HN.out; rw [Nat.pow_succ]; omega)
                  go_wp2_with fail
                  go_roundw
                  case rel => exact ⟨N * 10 + (c.toNat - 48), k + 1, by omega, by go_num, by go_num, HP, HE, trivial⟩
                  case measure => simp [intOf]; omega
            · have hke : k = l.length := by omega
              subst hke
              have HE := Lib.hid (show valB l = (N : Int) by rw [HVV.out, HF.out, List.drop_length, valF])
              go_wp2_with fail
              go_ret
              exact ⟨by rw [HE.out]; rfl, 0, rfl⟩
      · have h10 : ¬ (1 : Int) < (l.length : Int) := by omega
        have HVV := Lib.hid (show valB l = valF 0 l by rw [HV.out, if_neg (fun h => h.elim h0 fun h => h.elim h9 fun h => h1 h.1)])
        have h9l : l.length ≤ 9 := by omega
        clear h0 h9 hhd hc0 HV h1
        go_enter Tryz.func38, Tryz.ntmps38
        go_wp2_with fail
        clear h00 h90 hix0 h10
        go_loopw [3, 4] (fun n i wr => ∃ (N k : Nat), k ≤ l.length ∧ n = .int .i64 N ∧ i = .int .i64 k ∧ Hid (N < 10 ^ k) ∧ Hid (valF 0 l = valF (N : Int) (l.drop k)) ∧ wr = w) (fun _ i _ => l.length - (intOf i).toNat)
        case atStart => exact ⟨0, 0, Nat.zero_le _, rfl, rfl, Lib.hid (by simp), Lib.hid rfl, rfl⟩
        case round =>
          obtain ⟨N, k, hk, rfl, rfl, HN, HF, rfl⟩ := hrel
          by_cases hlt : k < l.length
          · have hki : (k : Int) < (l.length : Int) := by omega
            have hN8 : N < 100000000 := Nat.lt_of_lt_of_le HN.out (Nat.pow_le_pow_right (by decide) (by omega : k ≤ 8))
            obtain ⟨c, hc⟩ : ∃ c, l[k]? = some c := ⟨_, List.getElem?_eq_getElem hlt⟩
            have hix := str_ix hc
            have HS := Lib.hid (HF.out.trans (valF_step hc))
            clear hc
            by_cases hlo : c.toNat < 48
            · have hlo2 : (c.toNat : Int) < 48 := by omega
              have HE := Lib.hid (show valB l = -1 by rw [HVV.out, HS.out, if_pos (.inl hlo)])
              go_wp2_with fail
              go_ret
              exact ⟨by rw [HE.out]; rfl, 0, rfl⟩
            · by_cases hhi : 57 < c.toNat
              · have hlo2 : ¬ (c.toNat : Int) < 48 := by omega
                have hhi2 : (57 : Int) < (c.toNat : Int) := by omega
                have HE := Lib.hid (show valB l = -1 by rw [HVV.out, HS.out, if_pos (.inr hhi)])
                go_wp2_with fail
                go_ret
                exact ⟨by rw [HE.out]; rfl, 0, rfl⟩
              · have hlo2 : ¬ (c.toNat : Int) < 48 := by omega
                have hhi2 : ¬ (57 : Int) < (c.toNat : Int) := by omega
                have hw8 : IntKind.u8.wrap ((c.toNat : Int) - 48) = (c.toNat : Int) - 48 := IntWalk.u8_in _ (by omega)
                have HE := Lib.hid (show valF 0 l = valF ((N * 10 + (c.toNat - 48) : Nat) : Int) (l.drop (k + 1)) by
                  rw [HS.out, if_neg (by omega)]
                  congr 1
                  omega)
                have HP := Lib.hid (show N * 10 + (c.toNat - 48) < 10 ^ (k + 1) by have := HN.out; rw [Nat.pow_succ]; omega)
                go_wp2_with fail
                go_roundw
                case rel => exact ⟨N * 10 + (c.toNat - 48), k + 1, by omega, by go_num, by go_num, HP, HE, trivial⟩
                case measure => simp [intOf]; omega
          · have hke : k = l.length := by omega
            subst hke
            have HE := Lib.hid (show valB l = (N : Int) by rw [HVV.out, HF.out, List.drop_length, valF])
            go_wp2_with fail
            go_ret
            exact ⟨by rw [HE.out]; rfl, 0, rfl⟩
end Go.Proofs.YtnnfjjadehgmeaaGreatDoor

