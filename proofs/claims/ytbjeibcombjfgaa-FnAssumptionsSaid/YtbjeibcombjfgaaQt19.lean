/- Walk: l09Spoil of the reference. | Walk: DrawRepeatTableau. | Walks of helpers of the laws: likeInts, whole9, big. | Arguments that came in, opened to the words of the Mem text. | Byte slices that came in, opened. -/
import Derived.Test.YtbjeibcombjfgaaQt18
import Derived.Test.YtbjeibcombjfgaaQt4
import Derived.Test.YtbjeibcombjfgaaQt3
import Derived.Test.YtbjeibcombjfgaaQt16
import Derived.Test.YtbjeibcombjfgaaRows
import Derived.WalkKit
import Derived.ProofKit
import Derived.OpenShut
set_option maxRecDepth 100000
set_option linter.unusedVariables false
set_option linter.unusedSimpArgs false
namespace Go.Proofs.Ytbjeibcombjfgaa
open Go.RowKit

/-- a drawn tableau, opened -/
theorem DT.parts {w : World} {C n0 : Nat} {v : Value} (h : DT w C v (n0 + 1)) : ∃ ga ca gb cb gr cr vs zs0 A Bs, v = .agg #[.slice (some ⟨ga, 0, none⟩) (n0 + 1) ca, .slice (some ⟨gb, 0, none⟩) (n0 + 1) cb] ∧
    Two w C (.slice (some ⟨ga, 0, none⟩) (n0 + 1) ca) (.slice (some ⟨gb, 0, none⟩) (n0 + 1) cb) (.slice (some ⟨gr, 0, none⟩) (n0 + 1) cr :: vs) (zs0 :: A) Bs ∧ zs0.length = n0 + 1 ∧ Bs.length = n0 + 1 := by
  obtain ⟨A, Bs, ⟨va, vb, vs, rfl, h1, h2, h3, h4, h5⟩, hs, hb⟩ := h
  have hl := h3.1
  rw [hs.1] at hl
  cases vs with
  | nil => simp at hl
  | cons r0 vs =>
    cases A with
    | nil => have := hs.1; simp at this
    | cons zs0 A =>
      have hz0 := hs.2 zs0 (by simp)
      obtain ⟨gb, cb, rfl⟩ := own_openD h4.1 hb (by omega)
      obtain ⟨gr, cr, rfl⟩ := own_openD (h3.2.1 0 r0 zs0 rfl rfl).1 hz0 (by omega)
      rcases h1.cases with ⟨-, he⟩ | ⟨ga, ca, cur, he, -⟩
      · cases he
      · rw [hl] at he
        subst he
        exact ⟨ga, ca, gb, cb, gr, cr, vs, zs0, A, Bs, rfl, ⟨h1, h3, h4.1, h5⟩, hz0.1, hb.1⟩
theorem SpT.init {w w5 : World} {B p : Nat} {va vb : Value} {vs : List Value} {A : List (List Int)} {Bs : List Int} (h : Two w5 (w.heap.size + 1) va vb vs A Bs) (hk : Blk w5 w.heap.size tTb #[.slice none 0 0, .slice none 0 0]) (hg : w.grownBy w5 (some p)) (hs : Src w5 B tSc p) :
    SpT w (w5.alloc (.cells #[va, vb] tTb)) B p w5.heap.size va vb vs A Bs := by
  have hb := below1 w5 (.cells #[va, vb] tTb)
  have hlt := hk.lt
  exact ⟨h.step hb, Blk.new _ _ _, hk.below hb hlt, by omega, gtrans hg (gof hb), hs.below hb⟩
set_option maxHeartbeats 32000000 in
theorem s_l09Spoil (w : World) (B p most : Nat) (h : Src w B tSc p) (hm1 : 1 ≤ most) (hm8 : most ≤ 8) :
    Calls Try.prog 59 #[at0 p, .int .i64 (most : Nat)] w fun e w' => ∃ v, e = .returned v ∧ (∃ A Bs, Stab w' w.heap.size v A Bs) ∧ w.grownBy w' (some p) ∧ Src w' B tSc p := by
  have hpl := h.lt
  have HBp := Lib.hid h.ge
  obtain ⟨W, hW⟩ : ∃ W, W = w.alloc (.cells #[.slice none 0 0, .slice none 0 0] tTb) := ⟨_, rfl⟩
  have HSW := Lib.hid (show W.heap.size = w.heap.size + 1 from by rw [hW]; simp)
  have HKR := Lib.hid (show Blk W w.heap.size tTb #[.slice none 0 0, .slice none 0 0] from by rw [hW]; exact Blk.new _ _ _)
  have HG0 := Lib.hid (show w.grownBy W (some p) from gof (by rw [hW]; exact below1 w _))
  have HS0 := Lib.hid (show Src W B tSc p from h.below (by rw [hW]; exact below1 w _))
  clear h
  go_enter Try.func59, Try.ntmps59
  go_upto_region 1 with fail
  rw [← hW]
  clear hW
  go_upto_region 2 with (go_at_call 113; go_loud (refine (s_l09Draw W B p most HS0.out hm1 hm8).mono ?_; rintro e w5 ⟨v5, n, rfl, hd, hn1, hn8, hg, hs⟩; obtain ⟨n0, rfl⟩ : ∃ n0, n = n0 + 1 := ⟨n - 1, by omega⟩; obtain ⟨ga, ca, gb, cb, gr, cr, vs, zs0, A, Bs, rfl, ht, hz0, hbl⟩ := hd.parts; rw [HSW.out] at ht; have HT5 := Lib.hid (SpT.init ht (HKR.out.srcD hg (by omega)) (gtrans HG0.out hg) hs); have HZ0 := Lib.hid hz0; have HBL := Lib.hid hbl; clear ht hz0 hbl hd hg hs))
  clear HKR HG0 HS0
  obtain ⟨q, hq⟩ : ∃ q, q = w5.heap.size := ⟨_, rfl⟩
  obtain ⟨W6, hW6⟩ : ∃ W6, W6 = w5.alloc (.cells #[.slice (some ⟨ga, 0, none⟩) (n0 + 1) ca, .slice (some ⟨gb, 0, none⟩) (n0 + 1) cb] tTb) := ⟨_, rfl⟩
  rw [← hq, ← hW6] at HT5
  rw [← hW6, ← hq]
  clear hq hW6
  go_upto_region 3 with (go_at_call 114; go_loud (refine (s_l01Next _ B p 40 HT5.out.src (by omega) (by omega)).mono ?_; rintro e w6 ⟨x, rfl, x0, x1, hg, hs⟩; have HT := Lib.hid (HT5.out.draw hpl hg hs); clear hg hs))
  clear HT5
  have hqa : w6.cell? ⟨q, 0, none⟩ = some (.slice (some ⟨ga, 0, none⟩) (n0 + 1) ca) := HT.out.blk.cell 0
  have hqb : w6.cell? ⟨q, 1, none⟩ = some (.slice (some ⟨gb, 0, none⟩) (n0 + 1) cb) := HT.out.blk.cell 1
  have hfa : w6.frozen? ⟨q, 0, none⟩ = false := HT.out.blk.frozen 0
  have hfb : w6.frozen? ⟨q, 1, none⟩ = false := HT.out.blk.frozen 1
  have hqs : w.heap.size + 1 ≤ w6.heap.size := by have h1 := HT.out.ge; have h2 := HT.out.blk.lt; omega
  have HQS := Lib.hid hqs
  clear hqs
  by_cases hx0 : x = 0
  · subst hx0
    go_upto_region 13 with (at_builtin; go_loud (refine wpList_app1 T_int HT.out.two.ws.1 (by rw [ints_len, HBL.out]; omega) HQS.out (by rfl) rfl (by rfl) (by rfl) (by rfl) ?_; intro v7 w7 hown7 hgr7; have hop7 := hown7.cells.open_; (obtain ⟨A7, c7, hv7, -, -⟩ := hop7); have he7 : v7 = .slice A7 (n0 + 1 + 1) c7 := (by rw [List.length_append, ints_len, HBL.out] at hv7; exact hv7); clear hv7; subst he7; have hsp := HT.out.addB hpl (by unfold In64; omega) hown7 hgr7; have HE := Lib.hid hsp.2; have r0 : w7.cell? ⟨q, 1, none⟩ = some (.slice (some ⟨gb, 0, none⟩) (n0 + 1) cb) := hsp.1.cell 1; have r1 : w7.frozen? ⟨q, 1, none⟩ = false := hsp.1.frozen 1; clear hown7 hgr7 hsp))
    clear hqa hqb hfa hfb r0 r1
    obtain ⟨wz, hwz⟩ : ∃ wz, wz = w7.setCell ⟨q, 1, none⟩ (.slice A7 (n0 + 1 + 1) c7) := ⟨_, rfl⟩
    rw [← hwz] at HE ⊢
    clear hwz
    have HDz := HE.out
    have q0 : wz.cell? ⟨q, 0, none⟩ = some (.slice (some ⟨ga, 0, none⟩) (n0 + 1) ca) := HDz.blk.cell 0
    have q1 : wz.cell? ⟨q, 1, none⟩ = some (.slice A7 (n0 + 1 + 1) c7) := HDz.blk.cell 1
    have p0 : wz.cell? ⟨w.heap.size, 0, none⟩ = some (.slice none 0 0) := HDz.res.cell 0
    have p1 : wz.cell? ⟨w.heap.size, 1, none⟩ = some (.slice none 0 0) := HDz.res.cell 1
    have f0 : wz.frozen? ⟨w.heap.size, 0, none⟩ = false := HDz.res.frozen 0
    have f1 : wz.frozen? ⟨w.heap.size, 1, none⟩ = false := HDz.res.frozen 1
    have HBLK := Lib.hid (show Blk ((wz.setCell ⟨w.heap.size, 0, none⟩ (.slice (some ⟨ga, 0, none⟩) (n0 + 1) ca)).setCell ⟨w.heap.size, 1, none⟩ (.slice A7 (n0 + 1 + 1) c7)) w.heap.size tTb #[.slice (some ⟨ga, 0, none⟩) (n0 + 1) ca, .slice A7 (n0 + 1 + 1) c7] from by have h := (HDz.res.set_ 0 (.slice (some ⟨ga, 0, none⟩) (n0 + 1) ca)).set_ 1 (.slice A7 (n0 + 1 + 1) c7); simpa using h)
    obtain ⟨hfin, hgf, hsf⟩ := HDz.fin hpl
    have HF := Lib.hid hfin
    have HGF := Lib.hid hgf
    have HSF := Lib.hid hsf
    clear hfin hgf hsf HDz
    go_wp2_with fail
    have g0 := HBLK.out.cell 0
    have g1 := HBLK.out.cell 1
    simp only [List.getElem?_toArray, List.getElem?_cons_zero, List.getElem?_cons_succ] at g0 g1
    exact bodyPost_ret (v := .agg #[.slice (some ⟨ga, 0, none⟩) (n0 + 1) ca, .slice A7 (n0 + 1 + 1) c7]) (by simp [results, Try.results59, go_sem, g0, g1]) rfl ⟨_, rfl, HF.out, HGF.out, HSF.out⟩

  · by_cases hx1 : x = 1
    · subst hx1
      have hca : w6.cell? ⟨ga, 0, none⟩ = some (.slice (some ⟨gr, 0, none⟩) (n0 + 1) cr) := HT.out.rowCell
      have hca2 : ∀ o, (w6.alloc o).cell? ⟨ga, 0, none⟩ = some (.slice (some ⟨gr, 0, none⟩) (n0 + 1) cr) := fun o => (HT.out.below hpl (below1 w6 o)).rowCell
      have hqa2 : ∀ o, (w6.alloc o).cell? ⟨q, 0, none⟩ = some (.slice (some ⟨ga, 0, none⟩) (n0 + 1) ca) := fun o => (HT.out.below hpl (below1 w6 o)).blk.cell 0
      have hbd : Below w6.heap.size w6 w6.drew := (Below.refl _ _).drew
      have HTd := Lib.hid (HT.out.below hpl hbd)
      go_upto_region 6 with fail
      go_region_law (go_loud (refine step_app1 T_int (B := w.heap.size + 1) (W := w6.drew) (v := .slice (some ⟨gr, 0, none⟩) (n0 + 1) cr) (vs := ints zs0) (u := .int .i64 1) (HTd.out.two.rows.2.1 0 _ zs0 rfl rfl).1.1 (by rw [ints_len, HZ0.out]; omega) HQS.out (by rfl) rfl (by rfl) (by rfl) (by rfl) ?_; intro v7 w7 hown7 hgr7; have hop7 := hown7.cells.open_; (obtain ⟨A7, c7, hv7, -, -⟩ := hop7); have he7 : v7 = .slice A7 (n0 + 1 + 1) c7 := (by rw [List.length_append, ints_len, HZ0.out] at hv7; exact hv7); clear hv7; subst he7; obtain ⟨⟨u7, r0⟩, r1, r2, hsp⟩ := HTd.out.row0 hpl (by unfold In64; omega) hown7 hgr7; have HE := Lib.hid hsp; have r3 : w7.cell? ⟨q, 0, none⟩ = some (.slice (some ⟨ga, 0, none⟩) (n0 + 1) ca) := r2.cell 0; clear hown7 hgr7 hsp r2))
      all_goals
        go_upto_region 13 with fail
        clear hqa hqb hfa hfb hca hca2 hqa2 r0 r1 r3
        obtain ⟨wz, hwz⟩ : ∃ wz, wz = w7.setCell ⟨ga, 0, none⟩ (.slice A7 (n0 + 1 + 1) c7) := ⟨_, rfl⟩
        rw [← hwz] at HE ⊢
        clear hwz
        have HDz := HE.out
        have q0 : wz.cell? ⟨q, 0, none⟩ = some (.slice (some ⟨ga, 0, none⟩) (n0 + 1) ca) := HDz.blk.cell 0
        have q1 : wz.cell? ⟨q, 1, none⟩ = some (.slice (some ⟨gb, 0, none⟩) (n0 + 1) cb) := HDz.blk.cell 1
        have p0 : wz.cell? ⟨w.heap.size, 0, none⟩ = some (.slice none 0 0) := HDz.res.cell 0
        have p1 : wz.cell? ⟨w.heap.size, 1, none⟩ = some (.slice none 0 0) := HDz.res.cell 1
        have f0 : wz.frozen? ⟨w.heap.size, 0, none⟩ = false := HDz.res.frozen 0
        have f1 : wz.frozen? ⟨w.heap.size, 1, none⟩ = false := HDz.res.frozen 1
        have HBLK := Lib.hid (show Blk ((wz.setCell ⟨w.heap.size, 0, none⟩ (.slice (some ⟨ga, 0, none⟩) (n0 + 1) ca)).setCell ⟨w.heap.size, 1, none⟩ (.slice (some ⟨gb, 0, none⟩) (n0 + 1) cb)) w.heap.size tTb #[.slice (some ⟨ga, 0, none⟩) (n0 + 1) ca, .slice (some ⟨gb, 0, none⟩) (n0 + 1) cb] from by have h := (HDz.res.set_ 0 (.slice (some ⟨ga, 0, none⟩) (n0 + 1) ca)).set_ 1 (.slice (some ⟨gb, 0, none⟩) (n0 + 1) cb); simpa using h)
        obtain ⟨hfin, hgf, hsf⟩ := HDz.fin hpl
        have HF := Lib.hid hfin
        have HGF := Lib.hid hgf
        have HSF := Lib.hid hsf
        clear hfin hgf hsf HDz
        go_wp2_with fail
        have g0 := HBLK.out.cell 0
        have g1 := HBLK.out.cell 1
        simp only [List.getElem?_toArray, List.getElem?_cons_zero, List.getElem?_cons_succ] at g0 g1
        exact bodyPost_ret (v := .agg #[.slice (some ⟨ga, 0, none⟩) (n0 + 1) ca, .slice (some ⟨gb, 0, none⟩) (n0 + 1) cb]) (by simp [results, Try.results59, go_sem, g0, g1]) rfl ⟨_, rfl, HF.out, HGF.out, HSF.out⟩

    · by_cases hx2 : x = 2
      · subst hx2
        have hca : w6.cell? ⟨ga, 0, none⟩ = some (.slice (some ⟨gr, 0, none⟩) (n0 + 1) cr) := HT.out.rowCell
        have hca2 : ∀ o, (w6.alloc o).cell? ⟨ga, 0, none⟩ = some (.slice (some ⟨gr, 0, none⟩) (n0 + 1) cr) := fun o => (HT.out.below hpl (below1 w6 o)).rowCell
        have hqa2 : ∀ o, (w6.alloc o).cell? ⟨q, 0, none⟩ = some (.slice (some ⟨ga, 0, none⟩) (n0 + 1) ca) := fun o => (HT.out.below hpl (below1 w6 o)).blk.cell 0
        have hbd : Below w6.heap.size w6 (w6.drew.alloc (.cells #[.int .i64 (-1), .int .i64 10007] tI)) := ((Below.refl _ _).drew).alloc (Nat.le_refl _) _
        have HTd := Lib.hid (HT.out.below hpl hbd)
        have HLI := Lib.hid (show ∀ X, (w6.drew.alloc (.cells #[.int .i64 (-1), .int .i64 10007] tI)).grownBy X (some p) → Ints X (.slice (some ⟨w6.heap.size, 0, none⟩) 2 2) [-1, 10007] from lit_keep w6.drew p [-1, 10007] (by intro z hz; simp at hz; unfold In64; omega) (by simp) (by have h1 := HQS.out; show p < w6.heap.size; omega))
        go_upto_region 8 with fail
        go_region_law (go_simp; go_at_call 60; (with_reducible refine (s_l01Pick _ B p _ [-1, 10007] ?_ ?_ ?_ ?_).mono ?_); (exact HTd.out.src); (exact HLI.out); (simp); (simp); go_loud (rintro e w7 ⟨z, rfl, hzm, hg, hs⟩; have hz64 : In64 z := (by simp at hzm; unfold In64; omega); have HT7 := Lib.hid (HTd.out.draw hpl hg hs); obtain ⟨⟨u7, r0⟩, r1, hsp⟩ := HT7.out.cell0 hpl hz64 (by rw [HZ0.out]; omega); have HE := Lib.hid hsp; have r3 : w7.cell? ⟨q, 0, none⟩ = some (.slice (some ⟨ga, 0, none⟩) (n0 + 1) ca) := HT7.out.blk.cell 0; have r4 : w7.cell? ⟨ga, 0, none⟩ = some (.slice (some ⟨gr, 0, none⟩) (n0 + 1) cr) := HT7.out.rowCell; clear hg hs hsp hzm hz64))
        all_goals
          go_upto_region 13 with fail
          clear hqa hqb hfa hfb hca hca2 hqa2 r0 r1 r3 r4
          obtain ⟨wz, hwz⟩ : ∃ wz, wz = w7.setCell ⟨gr, 0, none⟩ (.int .i64 z) := ⟨_, rfl⟩
          rw [← hwz] at HE ⊢
          clear hwz
          have HDz := HE.out
          have q0 : wz.cell? ⟨q, 0, none⟩ = some (.slice (some ⟨ga, 0, none⟩) (n0 + 1) ca) := HDz.blk.cell 0
          have q1 : wz.cell? ⟨q, 1, none⟩ = some (.slice (some ⟨gb, 0, none⟩) (n0 + 1) cb) := HDz.blk.cell 1
          have p0 : wz.cell? ⟨w.heap.size, 0, none⟩ = some (.slice none 0 0) := HDz.res.cell 0
          have p1 : wz.cell? ⟨w.heap.size, 1, none⟩ = some (.slice none 0 0) := HDz.res.cell 1
          have f0 : wz.frozen? ⟨w.heap.size, 0, none⟩ = false := HDz.res.frozen 0
          have f1 : wz.frozen? ⟨w.heap.size, 1, none⟩ = false := HDz.res.frozen 1
          have HBLK := Lib.hid (show Blk ((wz.setCell ⟨w.heap.size, 0, none⟩ (.slice (some ⟨ga, 0, none⟩) (n0 + 1) ca)).setCell ⟨w.heap.size, 1, none⟩ (.slice (some ⟨gb, 0, none⟩) (n0 + 1) cb)) w.heap.size tTb #[.slice (some ⟨ga, 0, none⟩) (n0 + 1) ca, .slice (some ⟨gb, 0, none⟩) (n0 + 1) cb] from by have h := (HDz.res.set_ 0 (.slice (some ⟨ga, 0, none⟩) (n0 + 1) ca)).set_ 1 (.slice (some ⟨gb, 0, none⟩) (n0 + 1) cb); simpa using h)
          obtain ⟨hfin, hgf, hsf⟩ := HDz.fin hpl
          have HF := Lib.hid hfin
          have HGF := Lib.hid hgf
          have HSF := Lib.hid hsf
          clear hfin hgf hsf HDz
          go_wp2_with fail
          have g0 := HBLK.out.cell 0
          have g1 := HBLK.out.cell 1
          simp only [List.getElem?_toArray, List.getElem?_cons_zero, List.getElem?_cons_succ] at g0 g1
          exact bodyPost_ret (v := .agg #[.slice (some ⟨ga, 0, none⟩) (n0 + 1) ca, .slice (some ⟨gb, 0, none⟩) (n0 + 1) cb]) (by simp [results, Try.results59, go_sem, g0, g1]) rfl ⟨_, rfl, HF.out, HGF.out, HSF.out⟩

      · by_cases hx3 : x = 3
        · subst hx3
          go_upto_region 13 with fail
          have HE := Lib.hid (HT.out.nil0 hpl)
          clear hqa hqb hfa hfb
          obtain ⟨wz, hwz⟩ : ∃ wz, wz = (w6.setCell ⟨q, 0, none⟩ (.slice none 0 0)).setCell ⟨q, 1, none⟩ (.slice none 0 0) := ⟨_, rfl⟩
          rw [← hwz] at HE ⊢
          clear hwz
          have HDz := HE.out
          have q0 : wz.cell? ⟨q, 0, none⟩ = some (.slice none 0 0) := HDz.blk.cell 0
          have q1 : wz.cell? ⟨q, 1, none⟩ = some (.slice none 0 0) := HDz.blk.cell 1
          have p0 : wz.cell? ⟨w.heap.size, 0, none⟩ = some (.slice none 0 0) := HDz.res.cell 0
          have p1 : wz.cell? ⟨w.heap.size, 1, none⟩ = some (.slice none 0 0) := HDz.res.cell 1
          have f0 : wz.frozen? ⟨w.heap.size, 0, none⟩ = false := HDz.res.frozen 0
          have f1 : wz.frozen? ⟨w.heap.size, 1, none⟩ = false := HDz.res.frozen 1
          have HBLK := Lib.hid (show Blk ((wz.setCell ⟨w.heap.size, 0, none⟩ (.slice none 0 0)).setCell ⟨w.heap.size, 1, none⟩ (.slice none 0 0)) w.heap.size tTb #[.slice none 0 0, .slice none 0 0] from by have h := (HDz.res.set_ 0 (.slice none 0 0)).set_ 1 (.slice none 0 0); simpa using h)
          obtain ⟨hfin, hgf, hsf⟩ := HDz.fin hpl
          have HF := Lib.hid hfin
          have HGF := Lib.hid hgf
          have HSF := Lib.hid hsf
          clear hfin hgf hsf HDz
          go_wp2_with fail
          have g0 := HBLK.out.cell 0
          have g1 := HBLK.out.cell 1
          simp only [List.getElem?_toArray, List.getElem?_cons_zero, List.getElem?_cons_succ] at g0 g1
          exact bodyPost_ret (v := .agg #[.slice none 0 0, .slice none 0 0]) (by simp [results, Try.results59, go_sem, g0, g1]) rfl ⟨_, rfl, HF.out, HGF.out, HSF.out⟩

        · by_cases hx4 : x = 4
          · subst hx4
            go_upto_region 13 with fail
            have HE := Lib.hid (HT.out.tail hpl)
            clear hqa hqb hfa hfb
            obtain ⟨A2, hA2⟩ : ∃ A2 : Option Addr, A2 = if ca = 1 then some ⟨ga, 0, none⟩ else some ⟨ga, 1, none⟩ := ⟨_, rfl⟩
            rw [← hA2] at HE ⊢
            clear hA2
            obtain ⟨wz, hwz⟩ : ∃ wz, wz = w6.setCell ⟨q, 0, none⟩ (.slice A2 n0 (ca - 1)) := ⟨_, rfl⟩
            rw [← hwz] at HE ⊢
            clear hwz
            have HDz := HE.out
            have q0 : wz.cell? ⟨q, 0, none⟩ = some (.slice A2 n0 (ca - 1)) := HDz.blk.cell 0
            have q1 : wz.cell? ⟨q, 1, none⟩ = some (.slice (some ⟨gb, 0, none⟩) (n0 + 1) cb) := HDz.blk.cell 1
            have p0 : wz.cell? ⟨w.heap.size, 0, none⟩ = some (.slice none 0 0) := HDz.res.cell 0
            have p1 : wz.cell? ⟨w.heap.size, 1, none⟩ = some (.slice none 0 0) := HDz.res.cell 1
            have f0 : wz.frozen? ⟨w.heap.size, 0, none⟩ = false := HDz.res.frozen 0
            have f1 : wz.frozen? ⟨w.heap.size, 1, none⟩ = false := HDz.res.frozen 1
            have HBLK := Lib.hid (show Blk ((wz.setCell ⟨w.heap.size, 0, none⟩ (.slice A2 n0 (ca - 1))).setCell ⟨w.heap.size, 1, none⟩ (.slice (some ⟨gb, 0, none⟩) (n0 + 1) cb)) w.heap.size tTb #[.slice A2 n0 (ca - 1), .slice (some ⟨gb, 0, none⟩) (n0 + 1) cb] from by have h := (HDz.res.set_ 0 (.slice A2 n0 (ca - 1))).set_ 1 (.slice (some ⟨gb, 0, none⟩) (n0 + 1) cb); simpa using h)
            obtain ⟨hfin, hgf, hsf⟩ := HDz.fin hpl
            have HF := Lib.hid hfin
            have HGF := Lib.hid hgf
            have HSF := Lib.hid hsf
            clear hfin hgf hsf HDz
            go_wp2_with fail
            have g0 := HBLK.out.cell 0
            have g1 := HBLK.out.cell 1
            simp only [List.getElem?_toArray, List.getElem?_cons_zero, List.getElem?_cons_succ] at g0 g1
            exact bodyPost_ret (v := .agg #[.slice A2 n0 (ca - 1), .slice (some ⟨gb, 0, none⟩) (n0 + 1) cb]) (by simp [results, Try.results59, go_sem, g0, g1]) rfl ⟨_, rfl, HF.out, HGF.out, HSF.out⟩

          · go_upto_region 13 with fail
            have HE := Lib.hid HT.out.toS
            clear hqa hqb hfa hfb
            obtain ⟨wz, hwz⟩ : ∃ wz, wz = w6 := ⟨_, rfl⟩
            rw [← hwz] at HE ⊢
            clear hwz
            have HDz := HE.out
            have q0 : wz.cell? ⟨q, 0, none⟩ = some (.slice (some ⟨ga, 0, none⟩) (n0 + 1) ca) := HDz.blk.cell 0
            have q1 : wz.cell? ⟨q, 1, none⟩ = some (.slice (some ⟨gb, 0, none⟩) (n0 + 1) cb) := HDz.blk.cell 1
            have p0 : wz.cell? ⟨w.heap.size, 0, none⟩ = some (.slice none 0 0) := HDz.res.cell 0
            have p1 : wz.cell? ⟨w.heap.size, 1, none⟩ = some (.slice none 0 0) := HDz.res.cell 1
            have f0 : wz.frozen? ⟨w.heap.size, 0, none⟩ = false := HDz.res.frozen 0
            have f1 : wz.frozen? ⟨w.heap.size, 1, none⟩ = false := HDz.res.frozen 1
            have HBLK := Lib.hid (show Blk ((wz.setCell ⟨w.heap.size, 0, none⟩ (.slice (some ⟨ga, 0, none⟩) (n0 + 1) ca)).setCell ⟨w.heap.size, 1, none⟩ (.slice (some ⟨gb, 0, none⟩) (n0 + 1) cb)) w.heap.size tTb #[.slice (some ⟨ga, 0, none⟩) (n0 + 1) ca, .slice (some ⟨gb, 0, none⟩) (n0 + 1) cb] from by have h := (HDz.res.set_ 0 (.slice (some ⟨ga, 0, none⟩) (n0 + 1) ca)).set_ 1 (.slice (some ⟨gb, 0, none⟩) (n0 + 1) cb); simpa using h)
            obtain ⟨hfin, hgf, hsf⟩ := HDz.fin hpl
            have HF := Lib.hid hfin
            have HGF := Lib.hid hgf
            have HSF := Lib.hid hsf
            clear hfin hgf hsf HDz
            go_wp2_with fail
            have g0 := HBLK.out.cell 0
            have g1 := HBLK.out.cell 1
            simp only [List.getElem?_toArray, List.getElem?_cons_zero, List.getElem?_cons_succ] at g0 g1
            exact bodyPost_ret (v := .agg #[.slice (some ⟨ga, 0, none⟩) (n0 + 1) ca, .slice (some ⟨gb, 0, none⟩) (n0 + 1) cb]) (by simp [results, Try.results59, go_sem, g0, g1]) rfl ⟨_, rfl, HF.out, HGF.out, HSF.out⟩

end Go.Proofs.Ytbjeibcombjfgaa

set_option maxRecDepth 100000
set_option linter.unusedVariables false
set_option linter.unusedSimpArgs false
namespace Go.Proofs.Ytbjeibcombjfgaa
open Go.RowKit

theorem chgOf {w w' : World} {p N : Nat} (h : w.grownBy w' (some p)) (hp : p < N) : Chg 0 N w w' := ⟨h.os, h.tape, h.output, h.size, fun k hk hd => h.block k hk (by intro e; injection e with e; omega)⟩
theorem ByB.belowS {w w' : World} {B n : Nat} {A : Option Addr} (h : ByB w B A n) (hB : B ≤ w.heap.size) (hb : Below B w w') : ByB w' B A n := fun k hk => by
  obtain ⟨ad, z, rfl, h1, h2, h3, h4, h5⟩ := h k hk
  exact ⟨ad, z, rfl, h1, Nat.lt_of_lt_of_le h2 hb.size, h3, h4, by rw [hb.cell (by rw [block_add]; exact h1)]; exact h5⟩
theorem ByB.monoS {w : World} {B B' n : Nat} {A : Option Addr} (h : ByB w B A n) (hB : B ≤ B') : ByB w B' A n := fun k hk => by
  obtain ⟨ad, z, rfl, h1, h2⟩ := h k hk
  exact ⟨ad, z, rfl, Nat.lt_of_lt_of_le h1 hB, h2⟩
set_option maxHeartbeats 8000000 in
theorem s_DrawRepeatTableau (w : World) (A : Option Addr) (N c : Nat) (hb : ByB w w.heap.size A N) (hN : N ≤ 4096) :
    Calls Try.prog 13 #[.slice A N c] w fun e w' => ∃ v k, e = .returned (.tuple #[v, .int .i64 k]) ∧ (-1 ≤ k ∧ k ≤ 9) ∧ (∃ X Bs, TabArg w' v X Bs) ∧ Below w.heap.size w w' := by
  obtain ⟨W, hW⟩ : ∃ W, W = w.alloc (.cells #[.slice none 0 0, .slice none 0 0] tTb) := ⟨_, rfl⟩
  have HSW := Lib.hid (show W.heap.size = w.heap.size + 1 from by rw [hW]; simp)
  have HBW := Lib.hid (show Below w.heap.size w W from by rw [hW]; exact below1 w _)
  have HKR := Lib.hid (show Blk W w.heap.size tTb #[.slice none 0 0, .slice none 0 0] from by rw [hW]; exact Blk.new _ _ _)
  have HFR := Lib.hid (s_l01From W A N c ((hb.belowS (Nat.le_refl _) HBW.out).monoS HBW.out.size) hN)
  clear hb
  go_enter Try.func13, Try.ntmps13
  go_upto_region 1 with fail
  rw [← hW]
  clear hW
  go_upto_region 2 with (go_at_call 58; go_loud (refine HFR.out.mono ?_; rintro e w1 ⟨p, rfl, hs1, hb1⟩; have HS1 := Lib.hid hs1; have HB1 := Lib.hid (HBW.out.trans (hb1.mono HBW.out.size)); have HK1 := Lib.hid (HKR.out.below hb1 HKR.out.lt); have hpg := hs1.ge; have hpl := hs1.lt; clear hs1 hb1))
  have HPW := Lib.hid (show w.heap.size < p from by have := HSW.out; omega)
  clear HFR HKR hpg
  go_wp2_with (first
    | (go_at_call 59; go_loud (refine (s_l09Spoil w1 W.heap.size p 3 HS1.out (by omega) (by omega)).mono ?_; rintro e w2 ⟨v, rfl, ⟨X, Bs, hst⟩, hg, hs⟩; obtain ⟨Aa, ca, Ab, cb, rfl⟩ := hst.arg.open_; have HST := Lib.hid hst; have HG2 := Lib.hid hg; have HS2 := Lib.hid hs; have HK2 := Lib.hid (HK1.out.srcD hg (by have := HPW.out; omega)); have hpl2 : p < w2.heap.size := Nat.lt_of_lt_of_le hpl hg.size; clear hst hg hs))
    | (go_at_call 60; go_loud (refine (s_l01Pick _ W.heap.size p _ [1, 2, 2, 3, 3, 4, 8, 9, 0, -1] (HS2.out.below (below1 w2 (.cells (ints [1, 2, 2, 3, 3, 4, 8, 9, 0, -1]).toArray tI))) (lit_keep w2 p [1, 2, 2, 3, 3, 4, 8, 9, 0, -1] (by intro z hz; simp at hz; unfold In64; omega) (by simp) hpl2) (by simp) (by simp)).mono ?_; rintro e w3 ⟨k, rfl, hk, hg, hs⟩; have HKB := Lib.hid (show -1 ≤ k ∧ k ≤ 9 from by simp at hk; omega); have hg3 := gtrans (gof (below1 w2 (.cells (ints [1, 2, 2, 3, 3, 4, 8, 9, 0, -1]).toArray tI))) hg; have HG3 := Lib.hid (gtrans HG2.out hg3); have HST3 := Lib.hid (HST.out.step (chgOf hg3 hpl)); have HK3 := Lib.hid (HK2.out.srcD hg3 (by have := HPW.out; omega)); have f0 : w3.cell? ⟨w.heap.size, 0, none⟩ = some (.slice none 0 0) := HK3.out.cell 0; have f1 : w3.cell? ⟨w.heap.size, 1, none⟩ = some (.slice none 0 0) := HK3.out.cell 1; have f2 := HK3.out.frozen 0; have f3 := HK3.out.frozen 1; clear hk hg hs hg3)))
  have HBLK := Lib.hid (show Blk ((w3.setCell ⟨w.heap.size, 0, none⟩ (.slice Aa X.length ca)).setCell ⟨w.heap.size, 1, none⟩ (.slice Ab Bs.length cb)) w.heap.size tTb #[.slice Aa X.length ca, .slice Ab Bs.length cb] from by have h := (HK3.out.set_ 0 (.slice Aa X.length ca)).set_ 1 (.slice Ab Bs.length cb); simpa using h)
  have c2 := ((Chg.refl 0 w1.heap.size w3).setCell (p := ⟨w.heap.size, 0, none⟩) (Nat.zero_le _) (by have := HPW.out; simp; omega) (.slice Aa X.length ca)).setCell (p := ⟨w.heap.size, 1, none⟩) (Nat.zero_le _) (by have := HPW.out; simp; omega) (.slice Ab Bs.length cb)
  have HT := Lib.hid (HST3.out.step c2).arg
  have HB := Lib.hid (((HB1.out.grown HG3.out (by have := HPW.out; omega) (fun b e => by injection e with e; have := HPW.out; omega)).setCell (p := ⟨w.heap.size, 0, none⟩) (Nat.le_refl _) (.slice Aa X.length ca)).setCell (p := ⟨w.heap.size, 1, none⟩) (Nat.le_refl _) (.slice Ab Bs.length cb))
  have g0 := HBLK.out.cell 0
  have g1 := HBLK.out.cell 1
  simp only [List.getElem?_toArray, List.getElem?_cons_zero, List.getElem?_cons_succ] at g0 g1
  exact bodyPost_ret (v := .tuple #[.agg #[.slice Aa X.length ca, .slice Ab Bs.length cb], .int .i64 k]) (by simp [results, Try.results13, go_sem, g0, g1]) rfl ⟨_, k, rfl, HKB.out, ⟨X, Bs, HT.out⟩, HB.out⟩
end Go.Proofs.Ytbjeibcombjfgaa

set_option maxRecDepth 100000
set_option linter.unusedVariables false
set_option linter.unusedSimpArgs false
namespace Go.Proofs.Ytbjeibcombjfgaa
open Go.RowKit

set_option maxHeartbeats 400000 in
theorem l_likeInts (w : World) (a b : Value) (xs ys : List Int) (ha : Ints w a xs) (hb : Ints w b ys) :
    Calls Try.prog 36 #[a, b] w fun e w' => e = .returned (.bool (decide (xs = ys))) ∧ ∃ n, w' = w.drewN n := by
  obtain ⟨A, c, rfl, h1, h2, h3⟩ := ha.open_
  obtain ⟨B, d, rfl, g1, g2, g3⟩ := hb.open_
  clear ha hb
  have H3 := Lib.hid h3
  have G3 := Lib.hid g3
  clear h3 g3
  by_cases hl : xs.length = ys.length
  · have hl' : (((xs.length : Nat) : Int) != ((ys.length : Nat) : Int)) = false := by simp [hl]
    have HL := Lib.hid hl
    clear hl
    have g4 : ys.length ≤ xs.length := by rw [HL.out]; omega
    have g5 : xs.length ≤ ys.length := by rw [HL.out]; omega
    go_enter Try.func36, Try.ntmps36
    go_wp2
    go_loopw [5] (fun i wr => ∃ k n : Nat, k ≤ xs.length ∧ i = .int .i64 k ∧ xs.take k = ys.take k ∧ wr = w.drewN n) (fun i _ => xs.length - (intOf i).toNat)
    case atStart => exact ⟨0, 0, Nat.zero_le _, rfl, rfl, rfl⟩
    case round =>
      obtain ⟨k, n, hk, rfl, ht, rfl⟩ := hrel
      have HT := Lib.hid ht
      clear ht
      by_cases hlt : k < xs.length
      · obtain ⟨ad, z, rfl, hz, hz2, hc⟩ := H3.out k hlt
        obtain ⟨ad', y, rfl, hy, hy2, hc'⟩ := G3.out k (by omega)
        have HZ := Lib.hid hz
        have HY := Lib.hid hy
        clear hz hy hz2 hy2
        go_wp2
        go_quiet (fail)
        go_wp2
        · have hne : (z != y) = true := by assumption
          go_ret
          refine ⟨ret_bool ?_, _, World.drewN_drewN _ _ _⟩
          symm
          simp only [decide_eq_false_iff_not]
          rintro rfl
          have := HZ.out.symm.trans HY.out
          simp at this hne
          exact hne this
        · have hne : (z != y) = false := by assumption
          go_roundw
          case rel => exact ⟨k + 1, _, by omega, by go_num, take_eq_succ HT.out HZ.out HY.out (by simpa using hne), rfl⟩
          case measure => simp [intOf]; omega
      · have : k = xs.length := by omega
        subst this
        go_wp2
        go_ret
        refine ⟨ret_bool ?_, _, rfl⟩
        have e := HT.out
        rw [List.take_length, List.take_of_length_le (by omega)] at e
        simp [e]
  · have hl' : (((xs.length : Nat) : Int) != ((ys.length : Nat) : Int)) = true := by simp; omega
    have HL := Lib.hid hl
    clear hl
    go_enter Try.func36, Try.ntmps36
    go_wp2
    go_ret
    refine ⟨ret_bool ?_, 0, rfl⟩
    have := HL.out
    symm
    simp only [decide_eq_false_iff_not]
    rintro rfl
    exact this rfl

set_option maxHeartbeats 400000 in
theorem l_big (w : World) (A : Option Addr) (n c : Nat) :
    Calls Try.prog 12 #[.slice A n c] w fun e w' => e = .returned (.bool (decide (4096 < n))) ∧ w = w' := by
  by_cases h : 4096 < n
  · have hd : (4096 : Int) < (n : Int) := by omega
    have HD := Lib.hid (show decide (4096 < n) = true by simp [h])
    clear h
    go_enter Try.func12, Try.ntmps12
    go_wp2_with fail
    go_ret
    exact ⟨ret_bool HD.out.symm, rfl⟩
  · have hd : ¬ ((4096 : Int) < (n : Int)) := by omega
    have HD := Lib.hid (show decide (4096 < n) = false by simp [h])
    clear h
    go_enter Try.func12, Try.ntmps12
    go_wp2_with fail
    go_ret
    exact ⟨ret_bool HD.out.symm, rfl⟩
end Go.Proofs.Ytbjeibcombjfgaa

set_option maxRecDepth 100000
set_option linter.unusedVariables false
set_option linter.unusedSimpArgs false
namespace Go.Proofs.Ytbjeibcombjfgaa
open Go.ChangeShapes Go.WideShapes Go.ChangeAt Go.RowKit

end Go.Proofs.Ytbjeibcombjfgaa

set_option maxRecDepth 100000
set_option linter.unusedVariables false
set_option linter.unusedSimpArgs false
namespace Go.Proofs.Ytbjeibcombjfgaa
open Go.ChangeShapes Go.WideShapes Go.ChangeAt Go.RowKit

theorem u8_of_wf {z : Int} (h : (Lit.int .u8 z).wf = true) : 0 ≤ z ∧ z ≤ 255 := by
  simp [Lit.wf, IntKind.min, IntKind.max, IntKind.signed, IntKind.bits] at h
  omega
theorem open_bytes {H : Type} {enc : TypeId × Value → H} {W : World} {base : Nat} {v : Value} {d : DataW H} {p : List MemPlace}
    (hv : Value.okWide Try.prog W .any base 22 v) (h : DataW.Trod enc Try.prog W 0 (fun _ => true) true 22 v d p) : ∃ n, Bts W v n := by
  obtain ⟨a, len, cap, rfl⟩ := okWide_slice Try.underlying22 hv
  obtain ⟨fuel, hf⟩ := h
  rcases open_ints Try.underlying22 Try.underlying5 (by kernel_rfl) hf with ⟨hcs, _⟩ | ⟨x, l, c, zs, hcs, _, hl, hm, hz, _, hcell, hwz⟩
  · simp [Value.cells] at hcs
    obtain ⟨rfl, rfl, rfl⟩ := hcs
    exact ⟨0, none, 0, rfl, fun k hk => by omega⟩
  · simp [Value.cells] at hcs
    obtain ⟨rfl, rfl, rfl⟩ := hcs
    have hz' : zs.length = cap := by simpa using hz
    refine ⟨len, some x, cap, rfl, fun k hk => ?_⟩
    have hk2 : k < zs.length := by omega
    have hc := hcell k (by omega)
    have hw := u8_of_wf (hwz _ (List.getElem_mem hk2))
    have e : zs.getD k 0 = zs[k] := by simp [List.getD, hk2]
    rw [e] at hc
    have hb := World.block_lt_of_cell? W _ hc
    rw [block_add] at hb
    exact ⟨x, zs[k], rfl, hb, hb, hw.1, hw.2, hc⟩
end Go.Proofs.Ytbjeibcombjfgaa

