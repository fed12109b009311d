/- Walks: the faults of tableaus, IsSymplectic of the program and of the reference. -/
import Derived.Test.YthkiokgfeckbeaaRows
import Derived.Test.YthkiokgfeckbeaaMem
import Derived.Test.YthkiokgfeckbeaaMem2
import Derived.Test.YthkiokgfeckbeaaNum
import Derived.Test.YthkiokgfeckbeaaA
import Derived.Test.YthkiokgfeckbeaaB
import Derived.Test.YthkiokgfeckbeaaLR
import Derived.Test.YthkiokgfeckbeaaTab
import Derived.Test.YthkiokgfeckbeaaSym
import Derived.WalkLawsBesides
import Derived.WalkSpells
import Derived.BigGuardPart
import Derived.Deep.QuietTactic
import Derived.BigQuiet
set_option linter.unusedVariables false
set_option linter.unusedSimpArgs false
namespace Go.Proofs.Ythkiokgfeckbeaa
open Go.RowKit

/-- left side less right side -/
def cnd (A : List (List Int)) (Bs : List Int) (i k : Nat) : Int := (Bs.getD i 0 * ent A i k + Bs.getD k 0 * ent A k i - Bs.getD i 0 * Bs.getD k 0) % 10007

/-- r is the first fault, or empty -/
def IsFault (A : List (List Int)) (Bs : List Int) (r : List Int) : Prop :=
  (r = [] ∧ ∀ i k, i ≤ k → k < Bs.length → cnd A Bs i k = 0) ∨
  ∃ i k : Nat, i ≤ k ∧ k < Bs.length ∧ r = [(i : Int), (k : Int)] ∧ cnd A Bs i k ≠ 0 ∧ ∀ a b, a ≤ b → b < Bs.length → (a < i ∨ a = i ∧ b < k) → cnd A Bs a b = 0

theorem IsFault.unique {A : List (List Int)} {Bs r r' : List Int} (h : IsFault A Bs r) (h' : IsFault A Bs r') : r = r' := by
  rcases h with ⟨rfl, h⟩ | ⟨i, k, h1, h2, rfl, h3, h4⟩
  · rcases h' with ⟨rfl, _⟩ | ⟨i', k', g1, g2, rfl, g3, g4⟩
    · rfl
    · exact absurd (h i' k' g1 g2) g3
  · rcases h' with ⟨rfl, h'⟩ | ⟨i', k', g1, g2, rfl, g3, g4⟩
    · exact absurd (h' i k h1 h2) h3
    · rcases Nat.lt_trichotomy i i' with h5 | h5 | h5
      · exact absurd (g4 i k h1 h2 (.inl h5)) h3
      · subst h5
        rcases Nat.lt_trichotomy k k' with h6 | h6 | h6
        · exact absurd (g4 i k h1 h2 (.inr ⟨rfl, h6⟩)) h3
        · subst h6; rfl
        · exact absurd (h4 i k' g1 g2 (.inr ⟨rfl, h6⟩)) g3
      · exact absurd (h4 i' k' g1 g2 (.inl h5)) g3

theorem IsFault.short {A : List (List Int)} {Bs r : List Int} (h : IsFault A Bs r) : r.length ≤ 2 := by
  rcases h with ⟨rfl, _⟩ | ⟨i, k, _, _, rfl, _⟩ <;> simp

/-- what the region's arithmetic needs -/
theorem prod_bd {a b c d e f : Int} (ha : 0 ≤ a ∧ a ≤ 10006) (hb : 0 ≤ b ∧ b ≤ 10006) : 0 ≤ a * b ∧ a * b ≤ 100120036 := by
  have := mul_bd 10006 10006 ha.1 ha.2 hb.1 hb.2
  omega

/-- the four numbers, in memory -/
theorem four {w : World} {A1 A2 : Option Addr} {c1 c2 : Nat} {A : List (List Int)} {Bs : List Int} (hI : IsTab A Bs)
    (hr : Rows w (.slice A1 A.length c1) A) (hb : Ints w (.slice A2 Bs.length c2) Bs) {i k : Nat} (hi : i < Bs.length) (hk : k < Bs.length) :
    ∃ ad ad1 ad2 ad3 d1 d2 bi bk, A1 = some ad ∧ A2 = some ad3 ∧
      w.cell? (ad.add i) = some (.slice (some ad1) Bs.length d1) ∧ w.cell? (ad1.add k) = some (.int .i64 (ent A i k)) ∧
      w.cell? (ad.add k) = some (.slice (some ad2) Bs.length d2) ∧ w.cell? (ad2.add i) = some (.int .i64 (ent A k i)) ∧
      w.cell? (ad3.add i) = some (.int .i64 bi) ∧ w.cell? (ad3.add k) = some (.int .i64 bk) ∧
      Hid (Bs.getD i 0 = bi) ∧ Hid (Bs.getD k 0 = bk) ∧ (0 ≤ bi ∧ bi ≤ 10006) ∧ (0 ≤ bk ∧ bk ≤ 10006) ∧ (0 ≤ ent A i k ∧ ent A i k ≤ 10006) ∧ (0 ≤ ent A k i ∧ ent A k i ≤ 10006) := by
  obtain ⟨ad, ad1, d1, rfl, p1, p2, _, _, p5, p6⟩ := hr.ent hI.row (i := i) (k := k) (by rw [hI.len]; exact hi) hk
  obtain ⟨ad', ad2, d2, e1, q1, q2, _, _, q5, q6⟩ := hr.ent hI.row (i := k) (k := i) (by rw [hI.len]; exact hk) hi
  cases e1
  obtain ⟨_, _, e2, _, _, h3⟩ := hb.open_
  simp only [Value.slice.injEq] at e2
  obtain ⟨rfl, _, rfl⟩ := e2
  obtain ⟨ad3, z, rfl, hz, _, r1⟩ := h3 i hi
  obtain ⟨ad4, y, e3, hy, _, r2⟩ := h3 k hk
  cases e3
  have hn := nums_iff.1 hI.num
  exact ⟨ad, ad1, ad2, ad3, d1, d2, z, y, rfl, rfl, p1, p2, q1, q2, r1, r2, by unfold Hid; simp [List.getD, hz], by unfold Hid; simp [List.getD, hy], hn z (List.mem_of_getElem? hz), hn y (List.mem_of_getElem? hy), ⟨p5, p6⟩, ⟨q5, q6⟩⟩

/-- the list of two, owned -/
theorem own_two (W : World) (i k : Nat) (hi : i ≤ 8) (hk : k ≤ 8) : OwnInts (W.alloc (.cells #[.int .i64 (i : Int), .int .i64 (k : Int)] tI)) W.heap.size tI (.slice (some ⟨W.heap.size, 0, none⟩) 2 2) [(i : Int), (k : Int)] := by
  refine ⟨own_lit W tI [.int .i64 (i : Int), .int .i64 (k : Int)] (by simp [maxLen]), fun z hz => ?_⟩
  simp at hz
  unfold In64
  omega

set_option maxHeartbeats 2000000 in
theorem im_symplecticFault (w : World) (v : Value) (A : List (List Int)) (Bs : List Int) (ha : TabArg w v A Bs) (hI : IsTab A Bs) :
    Calls Try.prog 36 #[v] w fun e w' => ∃ r v', e = .returned v' ∧ IsFault A Bs r ∧ OwnInts w' w.heap.size tI v' r ∧ (r = [] → v' = .slice none 0 0) ∧ Below w.heap.size w w' := by
  obtain ⟨va, vb, rfl, ha1, ha2⟩ := ha
  obtain ⟨A1, c1, hva, y1, y2, -⟩ := ha1.open_
  obtain ⟨A2, c2, hvb, y3, y4, -⟩ := ha2.open_
  subst hva
  subst hvb
  have BB := Lib.hid (below1 w (.cells #[.slice A1 A.length c1, .slice A2 Bs.length c2] 29))
  have H1 := Lib.hid (ha1.below BB.out)
  have H2 := Lib.hid (ha2.below BB.out)
  have HI := Lib.hid hI
  have hn8 := hI.hi
  clear ha1 ha2 hI
  go_enter Try.func36, Try.ntmps36
  go_wp2_with fail
  generalize hW : w.alloc (.cells #[.slice A1 A.length c1, .slice A2 Bs.length c2] 29) = wb at BB H1 H2 ⊢
  have g0 : wb.cell? ⟨w.heap.size, 0, none⟩ = some (.slice A1 A.length c1) := by rw [← hW]; exact (Blk.new w _ _).cell 0
  have g1 : wb.cell? ⟨w.heap.size, 1, none⟩ = some (.slice A2 Bs.length c2) := by rw [← hW]; exact (Blk.new w _ _).cell 1
  clear hW
  go_loopw [8] (fun i wr => ∃ j n : Nat, j ≤ Bs.length ∧ i = .int .i64 j ∧ wr = wb.drewN n ∧ Hid (∀ a b, a < j → a ≤ b → b < Bs.length → cnd A Bs a b = 0)) (fun i _ => Bs.length - (intOf i).toNat)
  case atStart => exact ⟨0, 0, Nat.zero_le _, rfl, rfl, fun a b h => by omega⟩
  case round =>
    obtain ⟨j, n, hj, rfl, rfl, hP⟩ := hrel
    by_cases hlt : j < Bs.length
    · have hlt' : (j : Int) < (Bs.length : Int) := by omega
      go_wp2_with fail
      go_loopw [4] (fun i wr => ∃ k m : Nat, j ≤ k ∧ k ≤ Bs.length ∧ i = .int .i64 k ∧ wr = wb.drewN m ∧ Hid (∀ b, j ≤ b → b < k → cnd A Bs j b = 0)) (fun i _ => Bs.length - (intOf i).toNat)
      case atStart => exact ⟨j, n, Nat.le_refl _, hj, rfl, rfl, fun b h => by omega⟩
      case round =>
        obtain ⟨k, m, hjk, hk, rfl, rfl, hQ⟩ := hrel
        by_cases hlt2 : k < Bs.length
        · obtain ⟨ad, ad1, ad2, ad3, d1, d2, bi, bk, rfl, rfl, p1, p2, p3, p4, p5, p6, HZ1, HZ2, b1, b2, b3, b4⟩ := four HI.out H1.out H2.out hlt hlt2
          have HL := Lib.hid HI.out.len
          have hla : A.length ≤ Bs.length := by rw [HL.out]; omega
          have hlb : Bs.length ≤ A.length := by rw [HL.out]; omega
          have i3 : (j : Int) < (A.length : Int) := by omega
          have i4 : (k : Int) < (A.length : Int) := by omega
          have i5 : (k : Int) < (Bs.length : Int) := by omega
          obtain ⟨u1, u2⟩ := prod_bd (c := 0) (d := 0) (e := 0) (f := 0) b1 b3
          obtain ⟨u3, u4⟩ := prod_bd (c := 0) (d := 0) (e := 0) (f := 0) b2 b4
          obtain ⟨u5, u6⟩ := prod_bd (c := 0) (d := 0) (e := 0) (f := 0) b1 b2
          have w1' : IntKind.i64.wrap (bi * ent A j k) = bi * ent A j k := IntWalk.i64_in _ (by omega)
          have w2' : IntKind.i64.wrap (bk * ent A k j) = bk * ent A k j := IntWalk.i64_in _ (by omega)
          have w3' : IntKind.i64.wrap (bi * bk) = bi * bk := IntWalk.i64_in _ (by omega)
          have w4' : IntKind.i64.wrap (bi * ent A j k + bk * ent A k j) = bi * ent A j k + bk * ent A k j := IntWalk.i64_in _ (by omega)
          have w5' : IntKind.i64.wrap (bi * ent A j k + bk * ent A k j - bi * bk) = bi * ent A j k + bk * ent A k j - bi * bk := IntWalk.i64_in _ (by omega)
          have HC := Lib.hid (show cnd A Bs j k = (bi * ent A j k + bk * ent A k j - bi * bk) % 10007 by unfold cnd; rw [HZ1.out, HZ2.out])
          clear b1 b2 b3 b4 HL
          go_wp2_with fail
          go_quiet ((go_at_call 71; exact quiet_same (i_num _ _ (by omega) (by omega))))
          clear w1' w2' w3' w4' w5'
          go_wp2_with fail
          · have hne : ((bi * ent A j k + bk * ent A k j - bi * bk) % 10007 != 0) = true := by assumption
            go_ret
            refine ⟨_, _, rfl, .inr ⟨j, k, hjk, hlt2, rfl, ?_, fun a b hab hb hlt => ?_⟩, ?_, ?_, ?_⟩
            · rw [HC.out]; simpa using hne
            · rcases hlt with h | ⟨h, h'⟩
              · exact hP.out a b h hab hb
              · subst h; exact hQ.out b hab h'
            · exact (own_two _ j k (by omega) (by omega)).mono BB.out.size
            · intro h; cases h
            · exact (below_drewN BB.out _).alloc BB.out.size _
          · have hne : ((bi * ent A j k + bk * ent A k j - bi * bk) % 10007 != 0) = false := by assumption
            go_roundw
            case rel =>
              refine ⟨k + 1, _, by omega, by omega, by go_num, rfl, fun b hb1 hb2 => ?_⟩
              by_cases e : b = k
              · subst e
                rw [HC.out]
                simpa using hne
              · exact hQ.out b hb1 (by omega)
            case measure => simp [intOf]; omega
        · have : k = Bs.length := by omega
          subst this
          go_wp2_with fail
          go_roundw
          case rel =>
            refine ⟨j + 1, _, by omega, by go_num, rfl, fun a b ha hab hb => ?_⟩
            by_cases e : a = j
            · subst e
              exact hQ.out b hab hb
            · exact hP.out a b (by omega) hab hb
          case measure => simp [intOf]; omega
    · have : j = Bs.length := by omega
      subst this
      go_wp2_with fail
      go_ret
      refine ⟨[], _, rfl, .inl ⟨rfl, fun i k hik hk => hP.out i k (by omega) hik hk⟩, OwnInts.nil _ _ _, fun _ => rfl, below_drewN BB.out _⟩

set_option maxHeartbeats 2000000 in
theorem s_l12Condition (w : World) (v : Value) (A : List (List Int)) (Bs : List Int) (i k : Nat) (ha : TabArg w v A Bs) (hI : IsTab A Bs) (hi : i < Bs.length) (hk : k < Bs.length) :
    Calls Try.prog 66 #[v, .int .i64 (i : Int), .int .i64 (k : Int)] w fun e w' => e = .returned (.int .i64 (cnd A Bs i k)) ∧ Below w.heap.size w w' := by
  obtain ⟨va, vb, rfl, ha1, ha2⟩ := ha
  obtain ⟨A1, c1, hva, y1, y2, -⟩ := ha1.open_
  obtain ⟨A2, c2, hvb, y3, y4, -⟩ := ha2.open_
  subst hva
  subst hvb
  have hn8 := hI.hi
  obtain ⟨ad, ad1, ad2, ad3, d1, d2, bi, bk, rfl, rfl, p1, p2, p3, p4, p5, p6, HZ1, HZ2, b1, b2, b3, b4⟩ := four hI ha1 ha2 hi hk
  have hlen := hI.len
  have HL := Lib.hid hI.len
  have HC := Lib.hid (show cnd A Bs i k = (bi * ent A i k + bk * ent A k i - bi * bk) % 10007 by unfold cnd; rw [HZ1.out, HZ2.out])
  rw [HC.out]
  have BB := Lib.hid (below1 w (.cells #[.slice (some ad) A.length c1, .slice (some ad3) Bs.length c2] 29))
  have K0 := Lib.hid (Blk.new w #[.slice (some ad) A.length c1, .slice (some ad3) Bs.length c2] 29)
  have hla : A.length ≤ Bs.length := by omega
  have hlb : Bs.length ≤ A.length := by omega
  have i1 : (i : Int) < (A.length : Int) := by omega
  have i2 : (k : Int) < (A.length : Int) := by omega
  have i3 : (i : Int) < (Bs.length : Int) := by omega
  have i4 : (k : Int) < (Bs.length : Int) := by omega
  obtain ⟨u1, u2⟩ := prod_bd (c := 0) (d := 0) (e := 0) (f := 0) b1 b3
  obtain ⟨u3, u4⟩ := prod_bd (c := 0) (d := 0) (e := 0) (f := 0) b2 b4
  obtain ⟨u5, u6⟩ := prod_bd (c := 0) (d := 0) (e := 0) (f := 0) b1 b2
  obtain ⟨b11, b12⟩ := b1
  obtain ⟨b21, b22⟩ := b2
  obtain ⟨b31, b32⟩ := b3
  obtain ⟨b41, b42⟩ := b4
  clear hlen ha1 ha2 hI HL HZ1 HZ2 HC hi hk
  have lt1 : ad.block < w.heap.size := by have := World.block_lt_of_cell? w _ p1; rwa [block_add] at this
  have lt2 : ad1.block < w.heap.size := by have := World.block_lt_of_cell? w _ p2; rwa [block_add] at this
  have lt3 : ad2.block < w.heap.size := by have := World.block_lt_of_cell? w _ p4; rwa [block_add] at this
  have lt4 : ad3.block < w.heap.size := by have := World.block_lt_of_cell? w _ p5; rwa [block_add] at this
  have P1 := Lib.hid ((BB.out.cell (p := ad.add i) (by rw [block_add]; exact lt1)).trans p1)
  have P2 := Lib.hid ((BB.out.cell (p := ad1.add k) (by rw [block_add]; exact lt2)).trans p2)
  have P3 := Lib.hid ((BB.out.cell (p := ad.add k) (by rw [block_add]; exact lt1)).trans p3)
  have P4 := Lib.hid ((BB.out.cell (p := ad2.add i) (by rw [block_add]; exact lt3)).trans p4)
  have P5 := Lib.hid ((BB.out.cell (p := ad3.add i) (by rw [block_add]; exact lt4)).trans p5)
  have P6 := Lib.hid ((BB.out.cell (p := ad3.add k) (by rw [block_add]; exact lt4)).trans p6)
  clear p1 p2 p3 p4 p5 p6 lt1 lt2 lt3 lt4
  go_enter Try.func66, Try.ntmps66
  go_wp2_with fail
  generalize hW : w.alloc (.cells #[.slice (some ad) A.length c1, .slice (some ad3) Bs.length c2] 29) = wb at BB K0 P1 P2 P3 P4 P5 P6 ⊢
  clear hW
  have p1 := P1.out
  have p2 := P2.out
  have p3 := P3.out
  have p4 := P4.out
  have p5 := P5.out
  have p6 := P6.out
  have g0 : wb.cell? ⟨w.heap.size, 0, none⟩ = some (.slice (some ad) A.length c1) := K0.out.cell 0
  have g1 : wb.cell? ⟨w.heap.size, 1, none⟩ = some (.slice (some ad3) Bs.length c2) := K0.out.cell 1
  go_quiet ((first | (go_at_call 86; exact quiet_same0 (s_l01Mul _ _ _ (by omega) (by omega) (by omega) (by omega))) | (go_at_call 98; exact quiet_same0 (s_l01Add _ _ _ (by omega) (by omega) (by omega) (by omega)))))
  go_wp2_with fail
  go_quiet ((first | (go_at_call 86; exact quiet_same (s_l01Mul _ _ _ (by omega) (by omega) (by omega) (by omega))) | (go_at_call 99; exact quiet_same (s_l01Sub _ _ _ (by omega) (by omega) (by omega) (by omega)))))
  go_wp2_with fail
  go_ret
  refine ⟨ret_int ?_, below_drewN (below_drewN BB.out _) _⟩
  omega
end Go.Proofs.Ythkiokgfeckbeaa
