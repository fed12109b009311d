/- Slices of slices, at lists of numbers and at lists of lists. | The walks of the arithmetic of the program and of the reference: num, pow, inv and their like. | Scaling a list: plain words, and append as a step of a region that draws. | Walks: the branches of a level list, of both. -/
import Derived.Test.YtngdpoeondnchaaGreatQ4
import Derived.Test.YtngdpoeondnchaaGreatRows
import Derived.Test.YtngdpoeondnchaaGreatQ1
import Derived.Test.YtngdpoeondnchaaGreatQ3
import Derived.WalkLawsBesides
import Derived.Test.YtngdpoeondnchaaGreatQ2
import Derived.Deep.RegionHeld3
import Derived.Deep.RegionLaw
set_option maxRecDepth 100000
set_option linter.unusedVariables false
set_option linter.unusedSimpArgs false
namespace Go.Proofs.YtngdpoeondnchaaGreat
open Go.RowKit

theorem sizeI (W : World) : (sizeOf (Tryz.prog.elem 27)).run Tryz.prog W = .ok 1 W := by kernel_rfl
theorem sizeL (W : World) : (sizeOf (Tryz.prog.elem 54)).run Tryz.prog W = .ok 1 W := by kernel_rfl

theorem sl_from {t : TypeId} (ht : Tryz.prog.underlying t = some (.slice (Tryz.prog.elem t))) (hs : ∀ W, (sizeOf (Tryz.prog.elem t)).run Tryz.prog W = .ok 1 W) (W : World) (A : Option Addr) (n c k : Nat) (K : Int) (hK : K = k) (h : k ≤ n) :
    (Instr.slice t (.slice A n c) (some (.int .i64 K)) none none).run Tryz.prog W = .ok (sliced A k n c 1) W := by
  subst hK
  rw [run_slice_l W t A n c ht .i64 k (by omega) (by omega), hs]
  simp [Result.andThen]
theorem sl_to {t : TypeId} (ht : Tryz.prog.underlying t = some (.slice (Tryz.prog.elem t))) (hs : ∀ W, (sizeOf (Tryz.prog.elem t)).run Tryz.prog W = .ok 1 W) (W : World) (A : Option Addr) (n c k : Nat) (K : Int) (hK : K = k) (h : k ≤ c) :
    (Instr.slice t (.slice A n c) none (some (.int .i64 K)) none).run Tryz.prog W = .ok (sliced A 0 k c 1) W := by
  subst hK
  rw [run_slice_h W t A n c ht .i64 k (by omega) (by omega), hs]
  simp [Result.andThen]
/-- 't[k:]' of a list of numbers -/
theorem ints_from {w : World} {A : Option Addr} {n c : Nat} {zs : List Int} (h : Ints w (.slice A n c) zs) (k : Nat) (K : Int) (hK : K = k) (hk : k ≤ zs.length) :
    ∃ X, (∀ W, (Instr.slice 27 (.slice A n c) (some (.int .i64 K)) none none).run Tryz.prog W = .ok (.slice X (zs.length - k) (c - k)) W) ∧ Ints w (.slice X (zs.length - k) (c - k)) (zs.drop k) := by
  have hn : n = zs.length := by obtain ⟨A', c', e, -, -, -⟩ := h.open_; simp only [Value.slice.injEq] at e; exact e.2.1
  obtain ⟨X, h1, h2⟩ := slice_ints h (k := k) (m := zs.length) hk (Nat.le_refl _)
  rw [List.take_length] at h2
  exact ⟨X, fun W => by rw [sl_from Tryz.underlying27 sizeI W A n c k K hK (by omega), hn, h1], h2⟩
/-- append of one element, whose block's number the walk has reckoned -/
theorem wpList_app1n {P : Program} {ops : Array Oper} {rest : List Oper} {o : Oper} {a : Act} {Q : Exit → Act → World → Prop} {s x : Operand} {t : TypeId}
    {e : TypeId} {z : Value} {bytes : Nat} {B : Nat} {v : Value} {vs : List Value} {W : World} {u : Value} (gn : Nat) (hgn : W.heap.size = gn)
    (T : ElemT P t e z bytes) (hown : Own W B e v vs) (hlen : vs.length < 1099511627776) (hB : B ≤ W.heap.size) (hu : u.oneCell' = true)
    (hgd : o.guard = none) (ho : o.op = .call { callee := .builtin .append, args := #[s, x], argTypes := #[t, t] }) (hs : a.eval s = v)
    (hx : a.eval x = .slice (some ⟨gn, 0, none⟩) 1 1)
    (h : ∀ v' w', Own w' B e v' (vs ++ [u]) → Grow W w' v v' → wpList P ops Q rest (a.put o.dst v') w') : wpList P ops Q (o :: rest) a (W.alloc (.cells #[u] e)) := by
  subst hgn
  exact wpList_app1 T hown hlen hB hu hgd ho hs hx h
end Go.Proofs.YtngdpoeondnchaaGreat

set_option linter.unusedVariables false
set_option linter.unusedSimpArgs false
namespace Go.Proofs.YtngdpoeondnchaaGreat
open Go.RowKit

set_option maxHeartbeats 400000 in
theorem i_num (n : Int) (w : World) (h0 : -4000000000000000000 ≤ n) (h1 : n ≤ 4000000000000000000) :
    Calls Tryz.prog 103 #[.int .i64 n] w fun e w' => e = .returned (.int .i64 (n % 10007)) ∧ w = w' := by
  have h2 : -10007 < n.tmod 10007 := by rw [Int.tmod_eq_emod]; split <;> omega
  have h3 : n.tmod 10007 < 10007 := by rw [Int.tmod_eq_emod]; split <;> omega
  have HT := Lib.hid (tmod_num n)
  go_enter Tryz.func103, Tryz.ntmps103
  go_wp2
  go_ret
  exact ⟨ret_int HT.out, rfl⟩

set_option maxHeartbeats 400000 in
theorem s_l01Mod (n : Int) (w : World) (h0 : -4000000000000000000 ≤ n) (h1 : n ≤ 4000000000000000000) :
    Calls Tryz.prog 117 #[.int .i64 n] w fun e w' => e = .returned (.int .i64 (n % 10007)) ∧ w = w' := by
  have h2 : -10007 < n.tmod 10007 := by rw [Int.tmod_eq_emod]; split <;> omega
  have h3 : n.tmod 10007 < 10007 := by rw [Int.tmod_eq_emod]; split <;> omega
  have HT := Lib.hid (tmod_num n)
  go_enter Tryz.func117, Tryz.ntmps117
  go_wp2
  go_ret
  exact ⟨ret_int HT.out, rfl⟩

set_option maxHeartbeats 400000 in
theorem s_l01Mul (a b : Int) (w : World) (h0 : 0 ≤ a) (h1 : a ≤ 2000000000) (g0 : 0 ≤ b) (g1 : b ≤ 2000000000) :
    Calls Tryz.prog 96 #[.int .i64 a, .int .i64 b] w fun e w' => e = .returned (.int .i64 (a * b % 10007)) ∧ w = w' := by
  obtain ⟨p1, p2⟩ := mul_bd 2000000000 2000000000 h0 h1 g0 g1
  go_enter Tryz.func96, Tryz.ntmps96
  go_wp2_with (go_at_call 117; refine (s_l01Mod _ _ (by omega) (by omega)).mono ?_; rintro e w' ⟨rfl, rfl⟩)
  go_ret
  exact ⟨rfl, rfl⟩

set_option maxHeartbeats 400000 in
theorem s_l01Add (a b : Int) (w : World) (h0 : -2000000000000000000 ≤ a) (h1 : a ≤ 2000000000000000000) (g0 : -2000000000000000000 ≤ b) (g1 : b ≤ 2000000000000000000) :
    Calls Tryz.prog 119 #[.int .i64 a, .int .i64 b] w fun e w' => e = .returned (.int .i64 ((a + b) % 10007)) ∧ w = w' := by
  go_enter Tryz.func119, Tryz.ntmps119
  go_wp2_with (go_at_call 117; refine (s_l01Mod _ _ (by omega) (by omega)).mono ?_; rintro e w' ⟨rfl, rfl⟩)
  go_ret
  exact ⟨rfl, rfl⟩

set_option maxHeartbeats 400000 in
theorem s_l01Sub (a b : Int) (w : World) (h0 : -2000000000000000000 ≤ a) (h1 : a ≤ 2000000000000000000) (g0 : -2000000000000000000 ≤ b) (g1 : b ≤ 2000000000000000000) :
    Calls Tryz.prog 97 #[.int .i64 a, .int .i64 b] w fun e w' => e = .returned (.int .i64 ((a - b) % 10007)) ∧ w = w' := by
  go_enter Tryz.func97, Tryz.ntmps97
  go_wp2_with (go_at_call 117; refine (s_l01Mod _ _ (by omega) (by omega)).mono ?_; rintro e w' ⟨rfl, rfl⟩)
  go_ret
  exact ⟨rfl, rfl⟩

set_option maxHeartbeats 400000 in
theorem i_pow (a k : Int) (w : World) (h0 : 0 ≤ a) (h1 : a ≤ 2000000000) (g0 : 0 ≤ k) (g1 : k ≤ 2000000000) :
    Calls Tryz.prog 100 #[.int .i64 a, .int .i64 k] w fun e w' => e = .returned (.int .i64 (pw a k.toNat)) ∧ w = w' := by
  go_enter Tryz.func100, Tryz.ntmps100
  go_wp2
  go_loop [0, 1, 5] (fun x y z => ∃ (b out : Int) (j : Nat), x = .int .i64 b ∧ y = .int .i64 j ∧ z = .int .i64 out ∧ 0 ≤ b ∧ b ≤ 2000000000 ∧ j ≤ 2000000000 ∧ 0 ≤ out ∧ out ≤ 10006 ∧ Hid ((out * b ^ j) % 10007 = pw a k.toNat)) (fun _ y _ => (intOf y).toNat)
  case atStart => exact ⟨a, 1, k.toNat, rfl, by rw [Int.toNat_of_nonneg g0], rfl, h0, h1, by omega, by omega, by omega, by unfold Hid pw; rw [Int.one_mul]⟩
  case round =>
    obtain ⟨b, out, j, rfl, rfl, rfl, b0, b1, j1, o0, o1, hI⟩ := hrel
    clear h0 h1 g0 g1
    by_cases hj : 0 < j
    · obtain ⟨p1, p2⟩ := mul_bd 10006 2000000000 o0 o1 b0 b1
      obtain ⟨q1, q2⟩ := mul_bd 2000000000 2000000000 b0 b1 b0 b1
      have hst := Lib.hid (pw_step out b _ j hj hI.out)
      by_cases hodd : j % 2 = 1
      · have hb : (((j : Int) % 2) == 1) = true := by simp; omega
        clear hodd
        go_wp2_with (go_at_call 103; refine (i_num _ _ (by omega) (by omega)).mono ?_; rintro e w' ⟨rfl, rfl⟩)
        go_round
        case rel => exact ⟨_, _, j / 2, rfl, by go_num, rfl, by omega, by omega, by omega, by omega, by omega, hst.out.1 (by simp at hb; omega)⟩
        case measure => simp [intOf]; omega
      · have hb : (((j : Int) % 2) == 1) = false := by simp; omega
        clear hodd
        go_wp2_with (go_at_call 103; refine (i_num _ _ (by omega) (by omega)).mono ?_; rintro e w' ⟨rfl, rfl⟩)
        go_round
        case rel => exact ⟨_, _, j / 2, rfl, by go_num, rfl, by omega, by omega, by omega, by omega, by omega, hst.out.2 (by simp at hb; omega)⟩
        case measure => simp [intOf]; omega
    · obtain rfl : j = 0 := by omega
      go_wp2
      go_ret
      refine ⟨ret_int ?_, rfl⟩
      have := hI.out
      rw [← this]
      simp
      omega

set_option maxHeartbeats 400000 in
theorem s_l01Pow (a k : Int) (w : World) (h0 : 0 ≤ a) (h1 : a ≤ 2000000000) (g0 : 0 ≤ k) (g1 : k ≤ 2000000000) :
    Calls Tryz.prog 95 #[.int .i64 a, .int .i64 k] w fun e w' => e = .returned (.int .i64 (pw a k.toNat)) ∧ w = w' := by
  go_enter Tryz.func95, Tryz.ntmps95
  go_wp2
  go_loop [0, 1, 5] (fun x y z => ∃ (b out : Int) (j : Nat), x = .int .i64 b ∧ y = .int .i64 j ∧ z = .int .i64 out ∧ 0 ≤ b ∧ b ≤ 2000000000 ∧ j ≤ 2000000000 ∧ 0 ≤ out ∧ out ≤ 10006 ∧ Hid ((out * b ^ j) % 10007 = pw a k.toNat)) (fun _ y _ => (intOf y).toNat)
  case atStart => exact ⟨a, 1, k.toNat, rfl, by rw [Int.toNat_of_nonneg g0], rfl, h0, h1, by omega, by omega, by omega, by unfold Hid pw; rw [Int.one_mul]⟩
  case round =>
    obtain ⟨b, out, j, rfl, rfl, rfl, b0, b1, j1, o0, o1, hI⟩ := hrel
    clear h0 h1 g0 g1
    by_cases hj : 0 < j
    · have hst := Lib.hid (pw_step out b _ j hj hI.out)
      by_cases hodd : j % 2 = 1
      · have hb : (((j : Int) % 2) == 1) = true := by simp; omega
        clear hodd
        go_wp2_with (go_at_call 96; refine (s_l01Mul _ _ _ (by omega) (by omega) (by omega) (by omega)).mono ?_; rintro e w' ⟨rfl, rfl⟩)
        go_round
        case rel => exact ⟨_, _, j / 2, rfl, by go_num, rfl, by omega, by omega, by omega, by omega, by omega, hst.out.1 (by simp at hb; omega)⟩
        case measure => simp [intOf]; omega
      · have hb : (((j : Int) % 2) == 1) = false := by simp; omega
        clear hodd
        go_wp2_with (go_at_call 96; refine (s_l01Mul _ _ _ (by omega) (by omega) (by omega) (by omega)).mono ?_; rintro e w' ⟨rfl, rfl⟩)
        go_round
        case rel => exact ⟨_, _, j / 2, rfl, by go_num, rfl, by omega, by omega, by omega, by omega, by omega, hst.out.2 (by simp at hb; omega)⟩
        case measure => simp [intOf]; omega
    · obtain rfl : j = 0 := by omega
      go_wp2
      go_ret
      refine ⟨ret_int ?_, rfl⟩
      have := hI.out
      rw [← this]
      simp
      omega

set_option maxHeartbeats 400000 in
theorem i_inv (a : Int) (w : World) (h0 : 0 ≤ a) (h1 : a ≤ 2000000000) :
    Calls Tryz.prog 81 #[.int .i64 a] w fun e w' => e = .returned (.int .i64 (pw a 10005)) ∧ w = w' := by
  go_enter Tryz.func81, Tryz.ntmps81
  go_wp2_with (go_at_call 100; refine (i_pow _ _ _ (by omega) (by omega) (by omega) (by omega)).mono ?_; rintro e w' ⟨rfl, rfl⟩)
  go_ret
  exact ⟨rfl, rfl⟩

set_option maxHeartbeats 400000 in
theorem s_l01Inv (a : Int) (w : World) (h0 : 0 ≤ a) (h1 : a ≤ 2000000000) :
    Calls Tryz.prog 98 #[.int .i64 a] w fun e w' => e = .returned (.int .i64 (pw a 10005)) ∧ w = w' := by
  go_enter Tryz.func98, Tryz.ntmps98
  go_wp2_with (go_at_call 95; refine (s_l01Pow _ _ _ (by omega) (by omega) (by omega) (by omega)).mono ?_; rintro e w' ⟨rfl, rfl⟩)
  go_ret
  exact ⟨rfl, rfl⟩

end Go.Proofs.YtngdpoeondnchaaGreat

set_option linter.unusedVariables false
set_option linter.unusedSimpArgs false
namespace Go.Proofs.YtngdpoeondnchaaGreat
open Go.RowKit

/-- append of one element, met in a region that draws -/
theorem step_app1 {P : Program} {ops : Array Oper} {o : Oper} {a : Act} {K : Act → World → Prop} {Q : Exit → Act → World → Prop} {E : Prop} {s x : Operand} {t : TypeId}
    {e : TypeId} {z : Value} {bytes : Nat} {B : Nat} {v : Value} {vs : List Value} {W : World} {u : Value}
    (T : ElemT P t e z bytes) (hown : Own W B e v vs) (hlen : vs.length < 1099511627776) (hB : B ≤ W.heap.size) (hu : u.oneCell' = true)
    (hgd : o.guard = none) (ho : o.op = .call { callee := .builtin .append, args := #[s, x], argTypes := #[t, t] }) (hs : a.eval s = v)
    (hx : a.eval x = .slice (some ⟨W.heap.size, 0, none⟩) 1 1)
    (h : ∀ v' w', Own w' B e v' (vs ++ [u]) → Grow W w' v v' → K (a.put o.dst v') w') :
    if Region.wanted o (yielded ops a.tmps) = true then Oper.wp P o a (W.alloc (.cells #[u] e)) K Q else E := by
  have hw : Region.wanted o (yielded ops a.tmps) = true := by simp [Region.wanted, hgd]
  rw [if_pos hw]
  obtain ⟨i, hi, hz, h1, h2⟩ := info_parts T.info
  have hby := T.small
  obtain ⟨v', w', hrun, r1, r2, _, r3⟩ := run_append_own_at (P := P) (W.alloc (.cells #[u] e)) B t o.type e i z 1 bytes T.under hi hz h1 h2 (by rw [T.one]; rfl) (by omega) v vs.length vs (hown.alloc _) ⟨W.heap.size, 0, none⟩ 1 1 [u] rfl
    (fun j u' hj => by
      cases j with
      | zero =>
        simp at hj; subst hj
        have e0 : (⟨W.heap.size, 0, none⟩ : Addr).add 0 = ⟨W.heap.size, 0, none⟩ := rfl
        rw [e0, World.cell?_alloc_at _ _ _ _ rfl]
        rfl
      | succ j => simp at hj) (by simpa using hu) (by simp only [maxLen]; omega) (by have := Nat.mul_le_mul_left (vs.length + 1) hby; omega) (by simp; omega)
  unfold Oper.wp execOp
  simp only [ho, resolve, invoke, builtin, Sem.run_bind, Sem.run_pure, Result.andThen_ok, List.map_toArray, List.map_cons, List.map_nil, hs, hx, hrun]
  refine h v' w' ?_ ⟨?_, ?_⟩
  · unfold Own; simpa using r1
  · refine ⟨r2.os, r2.tape, r2.output, ?_, fun k hk hne => ?_⟩
    · have := r2.size; simp at this; omega
    · rw [r2.block k (by simp; omega) hne]
      exact Below.heap_alloc _ _ _ hk
  · rcases r3 with r3 | r3
    · exact .inl r3
    · exact .inr ⟨_, r3, by simp⟩

/-- a list scaled -/
def scl (k : Int) (zs : List Int) : List Int := zs.map fun z => z * k % 10007
theorem scl_len (k : Int) (zs : List Int) : (scl k zs).length = zs.length := by simp [scl]
theorem scl_in (k : Int) (zs : List Int) : ∀ z ∈ scl k zs, In64 z := by
  intro z hz
  obtain ⟨i, _, rfl⟩ := List.mem_map.1 hz
  unfold In64
  omega
theorem scl_take {k : Int} {zs : List Int} {j : Nat} {z : Int} (h : zs[j]? = some z) : scl k (zs.take (j + 1)) = scl k (zs.take j) ++ [z * k % 10007] := by
  unfold scl
  rw [List.take_add_one, h]; simp
def Nums (zs : List Int) : Prop := ∀ z ∈ zs, 0 ≤ z ∧ z ≤ 10006
theorem scl_nums (k : Int) (zs : List Int) : Nums (scl k zs) := by
  intro z hz
  obtain ⟨i, _, rfl⟩ := List.mem_map.1 hz
  omega

set_option maxHeartbeats 1000000 in
theorem i_scaled (w : World) (v : Value) (zs : List Int) (k : Int) (ha : Ints w v zs) (hN : Nums zs) (hn : zs.length ≤ 4294967296) (h0 : -4000000000000000000 ≤ k) (h1 : k ≤ 4000000000000000000) :
    Calls Tryz.prog 101 #[v, .int .i64 k] w fun e w' => ∃ r, e = .returned r ∧ OwnInts w' w.heap.size tI r (scl (k % 10007) zs) ∧ Below w.heap.size w w' := by
  obtain ⟨A, c, rfl, l1, l2, h3⟩ := ha.open_
  have H3 := Lib.hid h3
  have HN := Lib.hid hN
  clear ha h3 hN
  have OL := Lib.hid (own_lit w tI [] (by simp [maxLen]))
  go_enter Tryz.func101, Tryz.ntmps101
  go_wp2_with fail
  go_loopw [5, 11] (fun o i wr => ∃ j : Nat, j ≤ zs.length ∧ i = .int .i64 j ∧ Own wr w.heap.size tI o (ints (scl (k % 10007) (zs.take j))) ∧ Below w.heap.size w wr) (fun _ i _ => zs.length - (intOf i).toNat)
  case atStart => exact ⟨0, Nat.zero_le _, rfl, by simpa [scl, ints] using OL.out, (Below.refl _ _).alloc (Nat.le_refl _) _⟩
  case round =>
    obtain ⟨j, hj, rfl, hown, hb⟩ := hrel
    clear OL
    have HO := Lib.hid hown
    have HB := Lib.hid hb
    clear hown hb
    by_cases hlt : j < zs.length
    · obtain ⟨ad, z, rfl, hz, hz2, hc0⟩ := H3.out j hlt
      have hc : wr.cell? (ad.add j) = some (.int .i64 z) := by
        rw [HB.out.cell (by rw [block_add]; have := World.block_lt_of_cell? w _ hc0; rwa [block_add] at this)]; exact hc0
      have hzn := HN.out z (List.mem_of_getElem? hz)
      have HS := Lib.hid (scl_take (k := k % 10007) hz)
      have hm0 : 0 ≤ k % 10007 ∧ k % 10007 ≤ 10006 := by omega
      obtain ⟨p1, p2⟩ := mul_bd 10006 10006 hzn.1 hzn.2 hm0.1 hm0.2
      have hmod : k % 10007 % 10007 = k % 10007 := by omega
      clear hz hz2 hc0
      go_wp2_with (first | (go_at_call 103; refine (i_num _ _ (by omega) (by omega)).mono ?_; rintro e w' ⟨rfl, rfl⟩) | (at_builtin; refine wpList_app1 T_int HO.out (by rw [ints_len, scl_len, List.length_take]; omega) HB.out.size (by rfl) rfl (by rfl) (by rfl) (by rfl) ?_; intro v1 w1 hown1 hgr1))
      go_roundw
      case rel =>
        refine ⟨j + 1, by omega, by go_num, ?_, hgr1.below HB.out HB.out.size HO.out.ge⟩
        rw [HS.out]
        simpa [ints] using hown1
      case measure => simp [intOf]; omega
    · have : j = zs.length := by omega
      subst this
      rw [List.take_length] at HO
      go_wp2_with fail
      go_ret
      exact ⟨_, rfl, ⟨HO.out, scl_in _ _⟩, HB.out⟩

end Go.Proofs.YtngdpoeondnchaaGreat

set_option maxRecDepth 100000
set_option linter.unusedVariables false
set_option linter.unusedSimpArgs false
namespace Go.Proofs.YtngdpoeondnchaaGreat
open Go.RowKit

theorem brF_snoc : ∀ (out : List (List Nat)) (ts : List Nat) (k : Nat) (l : Nat) (o r : List (List Nat)), brF out ts = some r → brF out (ts.take k) = some o → ts[k]? = some l → ∃ o', brStep o l = some o' ∧ brF out (ts.take (k + 1)) = some o'
  | out, [], k, l, o, r, _, _, hl => by simp at hl
  | out, t :: ts, 0, l, o, r, hr, ho, hl => by
    simp at hl; subst hl
    simp [brF] at ho; subst ho
    rw [brF] at hr
    cases hs : brStep out t with
    | none => rw [hs] at hr; cases hr
    | some o' => exact ⟨o', rfl, by simp [brF, hs]⟩
  | out, t :: ts, k + 1, l, o, r, hr, ho, hl => by
    rw [List.take_succ_cons, brF] at ho ⊢
    rw [brF] at hr
    cases hs : brStep out t with
    | none => rw [hs] at hr; cases hr
    | some o1 =>
      rw [hs] at hr ho
      simp only at hr ho ⊢
      exact brF_snoc o1 ts k l o r hr ho (by simpa using hl)
/-- one more step of the branches -/
theorem brStep_cases {o o' : List (List Nat)} {l : Nat} (h : brStep o l = some o') : (l = 1 ∧ o' = o ++ [[0]]) ∨ (2 ≤ l ∧ ∃ (n : Nat) (b : List Nat), o.length = n + 1 ∧ o[n]? = some b ∧ o' = o.set n (b ++ [l - 1])) := by
  unfold brStep at h
  split at h
  · cases h
  · injection h with h; exact .inl ⟨rfl, h.symm⟩
  · rename_i l' 
    split at h
    · cases h
    · rename_i b bs
      injection h with h
      refine .inr ⟨by omega, bs.length, (b :: bs)[bs.length], rfl, by simp, ?_⟩
      rw [← h]
      have : ∀ (b : List Nat) (bs : List (List Nat)), addLast (l' + 1) (b :: bs) = (b :: bs).set bs.length ((b :: bs)[bs.length] ++ [l' + 1]) := by
        intro b bs
        induction bs generalizing b with
        | nil => rfl
        | cons c cs ih =>
          rw [addLast, ih c]
          simp
      exact this b bs

def brLen : List (List Nat) → Nat
  | [] => 0
  | b :: bs => b.length + brLen bs
theorem brLen_append (a b : List (List Nat)) : brLen (a ++ b) = brLen a + brLen b := by
  induction a with
  | nil => simp [brLen]
  | cons x a ih => simp [brLen, ih]; omega
theorem brLen_set {bs : List (List Nat)} {n : Nat} {b : List Nat} (h : bs[n]? = some b) (x : Nat) : brLen (bs.set n (b ++ [x])) = brLen bs + 1 := by
  induction bs generalizing n with
  | nil => simp at h
  | cons c cs ih =>
    cases n with
    | zero => simp at h; subst h; simp [brLen]; omega
    | succ n => simp at h; simp [brLen, ih h]; omega
theorem brLen_mem {bs : List (List Nat)} {n : Nat} {b : List Nat} (h : bs[n]? = some b) : b.length ≤ brLen bs := by
  induction bs generalizing n with
  | nil => simp at h
  | cons c cs ih =>
    cases n with
    | zero => simp at h; subst h; simp [brLen]
    | succ n => simp at h; have := ih h; simp [brLen]; omega
theorem brF_tot : ∀ {out ts r}, brF out ts = some r → brLen r = brLen out + ts.length
  | out, [], r, h => by simp [brF] at h; subst h; simp
  | out, t :: ts, r, h => by
    rw [brF] at h
    cases hs : brStep out t with
    | none => rw [hs] at h; cases h
    | some o =>
      rw [hs] at h
      have h1 := brF_tot h
      have h2 : brLen o = brLen out + 1 := by
        rcases brStep_cases hs with ⟨_, rfl⟩ | ⟨_, n, b, _, hb, rfl⟩
        · rw [brLen_append]; simp [brLen]
        · exact brLen_set hb _
      simp
      omega
theorem up_getD {t : List Nat} {k : Nat} {z : Int} (h : (up t)[k]? = some z) : ∃ l : Nat, t[k]? = some l ∧ z = (l : Int) := by
  rw [up_get] at h
  cases ht : t[k]? with
  | none => rw [ht] at h; cases h
  | some l => rw [ht] at h; simp at h; exact ⟨l, rfl, h.symm⟩

set_option maxHeartbeats 4000000 in
theorem i_branchesOf (w : World) (v : Value) (t : List Nat) (bs : List (List Nat)) (ha : Ints w v (up t)) (hb : brO t = some bs) (hn : t.length ≤ 1000) (hl : ∀ l ∈ t, l ≤ 1000000) :
    Calls Tryz.prog 162 #[v] w fun e w' => ∃ r, e = .returned r ∧ LL w' w.heap.size r (bs.map up) ∧ Below w.heap.size w w' := by
  cases t with
  | nil => cases hb
  | cons t0 ts =>
    have HB := Lib.hid (show brF [] ts = some bs from hb)
    have HLV := Lib.hid hl
    obtain ⟨A, c, rfl, l1, l2, -⟩ := ha.open_
    obtain ⟨X, hsl, hx⟩ := ints_from ha 1 1 rfl (by simp [up])
    have hul : (up (t0 :: ts)).length - 1 = ts.length := by simp [up]
    rw [hul] at hsl hx
    have hnt : ts.length ≤ 1000 := by simp at hn; omega
    obtain ⟨A', c', he, m1, m2, h3⟩ := hx.open_
    have hdl : (up (t0 :: ts)).drop 1 = up ts := by simp [up]
    rw [hdl] at h3 he
    rw [up_len] at he
    simp only [Value.slice.injEq] at he
    obtain ⟨rfl, -, rfl⟩ := he
    have H3 := Lib.hid h3
    have OL := Lib.hid (show BrS (w.alloc (.cells #[] tL)) w.heap.size w.heap.size (.slice (some ⟨w.heap.size, 0, none⟩) 0 0) [] [] from ⟨own_lit w tL [] (by simp [maxLen]), RR.nil _ _, fun k u h => by simp at h, fun u zs h => by simp at h, Nat.le_refl _, by simp⟩)
    generalize hcc : c - 1 = cc at hsl m1 m2
    clear ha hx h3 hb hl hul hdl hn l1 l2 hcc
    generalize (up (t0 :: ts)).length = n0 at hsl ⊢
    go_enter Tryz.func162, Tryz.ntmps162
    go_wp2_with fail
    clear hsl
    have hm1 : ts.length ≤ cc := by simpa [up] using m1
    clear m1
    have HLT := Lib.hid (show ∀ l ∈ ts, l ≤ 1000000 from fun l h => HLV.out l (List.mem_cons_of_mem _ h))
    clear HLV
    go_loopw [3, 10] (fun o i wr => ∃ (j M : Nat) (vs : List Value) (oj : List (List Nat)), j ≤ ts.length ∧ i = .int .i64 j ∧ Hid (brF [] (ts.take j) = some oj) ∧ vs.length ≤ j ∧ BrS wr w.heap.size M o vs (oj.map up) ∧ Below w.heap.size w wr) (fun _ i _ => ts.length - (intOf i).toNat)
    case atStart => exact ⟨0, _, [], [], Nat.zero_le _, rfl, by simp [brF, Hid], Nat.le_refl _, OL.out, below1 _ _⟩
    case round =>
      obtain ⟨j, M, vs, oj, hj, rfl, hO, hvj, hs, hbw⟩ := hrel
      clear OL
      have HS := Lib.hid hs
      have HBW := Lib.hid hbw
      clear hs hbw
      by_cases hlt : j < ts.length
      · obtain ⟨ad, z, rfl, hz, -, hc0⟩ := H3.out j (by rw [up_len]; exact hlt)
        obtain ⟨l, hlj, hzl⟩ := up_getD hz
        obtain ⟨o', hst, hO'⟩ := brF_snoc [] ts j l oj bs HB.out hO.out hlj
        have hl6 := HLT.out l (List.mem_of_getElem? hlj)
        have hc : wr.cell? (ad.add j) = some (.int .i64 z) := by
          rw [HBW.out.cell (by rw [block_add]; have := World.block_lt_of_cell? w _ hc0; rwa [block_add] at this)]; exact hc0
        have HO' := Lib.hid hO'
        clear hz hc0 hO'
        have hji : (j : Int) < (ts.length : Int) := by omega
        have hwz : IntKind.i64.wrap (z - 1) = z - 1 := IntWalk.i64_in _ (by omega)
        rcases brStep_cases hst with ⟨h1, rfl⟩ | ⟨h2, n, b, hn', hb', rfl⟩
        · have hd : (z == 1) = true := by rw [hzl, h1]; rfl
          have HE := Lib.hid (show z - 1 = ((0 : Nat) : Int) by rw [hzl, h1]; rfl)
          have hz64 : In64 (z - 1) := by unfold In64; omega
          clear hst hlj h1 hzl
          have hvl : vs.length ≤ 1000 := by omega
          have hw2 : IntKind.i64.wrap ((vs.length : Int) + 1 - 1) = (vs.length : Int) := by rw [IntWalk.i64_in _ (by omega)]; omega
          go_wp2_with (first
            | (at_builtin; refine wpList_app1 T_row HS.out.own (by omega) (Nat.le_trans HS.out.le HS.out.lt) (by rfl) rfl (by rfl) (by rfl) (by rfl) ?_; intro v1 w1 hown1 hgr1; obtain ⟨g, cap, hv1, k1, k2, hs1, q0, hgs, hge, hu, hzs⟩ := HS.out.pushNil hown1 hgr1.1; have HB1 := Lib.hid (hgr1.below HBW.out HBW.out.size HS.out.own.ge); subst hv1; have HS1 := Lib.hid hs1; have HU := Lib.hid hu; have HZS := Lib.hid hzs; have HGE := Lib.hid hge; clear hown1 hgr1 hs1 hu hzs hge)
            | (at_builtin; refine wpList_app1 T_int (B := wr.heap.size) (v := .slice none 0 0) (vs := []) (Own.nil _ _ _) (by simp) HS1.out.lt (by rfl) rfl (by rfl) (by rfl) (by rfl) ?_; intro u1 w2 hown2 hgr2; obtain ⟨A2, c2, hu1, -, -⟩ := hown2.cells.open_; subst hu1; obtain ⟨⟨u0, q1⟩, q2, hs2⟩ := HS1.out.ready (m := vs.length) (zs1 := [z - 1]) (by simp) HU.out HZS.out ⟨by simpa [ints] using hown2, fun y hy => by simp at hy; subst hy; exact hz64⟩ hgr2.1; have HS2 := Lib.hid hs2; have HB2 := Lib.hid (hgr2.below HB1.out HB1.out.size (fun b hb => by simp [Value.ownBlock] at hb)); have hgs2 : g < w2.heap.size := Nat.lt_of_lt_of_le hgs hgr2.1.size; clear hs2 hown2 hgr2 q0))
          go_roundw
          case rel =>
            have e : (oj ++ [[0]]).map up = (oj.map up ++ [[]]).set vs.length [z - 1] := by
              have hl := HS.out.rows.1
              rw [hl, HE.out]
              simp [up]
            have hfin := HS2.out
            rw [← e] at hfin
            exact ⟨j + 1, _, _, _, by omega, by go_num, HO'.out, by simp; omega, hfin, HB2.out.setCell (p := ⟨g, vs.length, none⟩) HGE.out _⟩
          case measure => simp [intOf]; omega
        · have hd : (z == 1) = false := by rw [hzl]; simp; omega
          have HE := Lib.hid (show z - 1 = ((l - 1 : Nat) : Int) by rw [hzl]; omega)
          have hz64 : In64 (z - 1) := by unfold In64; omega
          have hvn : vs.length = n + 1 := by rw [HS.out.rows.1]; simp [hn']
          have hnn : n + 1 ≤ 1000 := by omega
          have HBB := Lib.hid hb'
          have HOL := Lib.hid hn'
          have HVN := Lib.hid hvn
          have HVJ := Lib.hid hvj
          clear hst hlj h2 hzl hb' hn' hvj
          obtain ⟨g, cap, u, zs, hv1, k1, k2, hu, hzs, hlast, q0⟩ := HS.out.openLast hvn
          subst hv1
          have HZS := Lib.hid (show zs = up b by simp [HBB.out] at hzs; exact hzs.symm)
          have HZ2 := Lib.hid hzs
          have HU := Lib.hid hu
          have HLA := Lib.hid hlast
          have hgs : g < wr.heap.size := World.block_lt_of_cell? wr _ q0
          have hbl : zs.length ≤ 1048576 := by
            have h1 := brF_tot hO.out
            have h2 := brLen_mem HBB.out
            rw [HZS.out, up_len]
            simp [brLen] at h1
            omega
          have hw2 : IntKind.i64.wrap ((n : Int) + 1 - 1) = (n : Int) := by rw [IntWalk.i64_in _ (by omega)]; omega
          clear hu hzs hlast hvn
          go_wp2_with (at_builtin; refine wpList_app1 T_int (B := M) (v := u) (vs := ints zs) HLA.out.1 (by rw [ints_len]; omega) HS.out.lt (by rfl) rfl (by rfl) (by rfl) (by rfl) ?_; intro u1 w2 hown2 hgr2; obtain ⟨A2, c2, hu1, -, -⟩ := hown2.cells.open_; subst hu1; obtain ⟨⟨u0, q1⟩, q2, hs2⟩ := HS.out.ready (m := n) (zs1 := zs ++ [z - 1]) HVN.out HU.out HZ2.out ⟨by simpa [ints] using hown2, fun y hy => by rcases List.mem_append.1 hy with hy | hy; exact HLA.out.2 y hy; simp at hy; subst hy; exact hz64⟩ hgr2.1; have HS2 := Lib.hid hs2; have HB2 := Lib.hid (hgr2.below HBW.out HBW.out.size (fun b hb => Nat.le_trans HS.out.le (HLA.out.1.ge b hb))); have hgs2 : g < w2.heap.size := Nat.lt_of_lt_of_le hgs hgr2.1.size; have HGE := Lib.hid (HS.out.own.ge g rfl); clear hs2 hown2 hgr2 q0)
          go_roundw
          case rel =>
            have e : (oj.set n (b ++ [l - 1])).map up = (oj.map up).set n (zs ++ [z - 1]) := by
              rw [HZS.out, HE.out, List.map_set, up_append]; rfl
            have hfin := HS2.out
            rw [← e, ← ints_len zs] at hfin
            exact ⟨j + 1, _, _, _, by omega, by go_num, HO'.out, by rw [List.length_set]; have := HVJ.out; omega, hfin, HB2.out.setCell (p := ⟨g, n, none⟩) HGE.out _⟩
          case measure => simp [intOf]; omega
      · have : j = ts.length := by omega
        subst this
        rw [List.take_length] at hO
        have HE := Lib.hid (show oj = bs from by have h := hO.out; rw [HB.out] at h; injection h with h; exact h.symm)
        go_wp2_with fail
        go_ret
        exact ⟨_, rfl, ⟨vs, HS.out.own, by rw [← HE.out]; exact HS.out.rows⟩, HBW.out⟩
end Go.Proofs.YtngdpoeondnchaaGreat

