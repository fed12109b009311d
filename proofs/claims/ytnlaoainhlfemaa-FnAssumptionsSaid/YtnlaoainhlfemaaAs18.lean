/- Walk: l09Spoil of the reference. | Walk: DrawRepeatTableau. | Walk: l11Collocation of the reference. -/
import Derived.Test.YtnlaoainhlfemaaAs17
import Derived.Test.YtnlaoainhlfemaaAs3
import Derived.Test.YtnlaoainhlfemaaAs11
import Derived.Test.YtnlaoainhlfemaaAs16
set_option maxRecDepth 100000
set_option linter.unusedVariables false
set_option linter.unusedSimpArgs false
namespace Go.Proofs.Ytnlaoainhlfemaa
open Go.RowKit

/-- a drawn tableau, opened -/
theorem DT.parts {w : World} {C n0 : Nat} {v : Value} (h : DT w C v (n0 + 1)) : ∃ ga ca gb cb gr cr vs zs0 A Bs, v = .agg #[.slice (some ⟨ga, 0, none⟩) (n0 + 1) ca, .slice (some ⟨gb, 0, none⟩) (n0 + 1) cb] ∧
    Two w C (.slice (some ⟨ga, 0, none⟩) (n0 + 1) ca) (.slice (some ⟨gb, 0, none⟩) (n0 + 1) cb) (.slice (some ⟨gr, 0, none⟩) (n0 + 1) cr :: vs) (zs0 :: A) Bs ∧ zs0.length = n0 + 1 ∧ Bs.length = n0 + 1 := by
  obtain ⟨A, Bs, ⟨va, vb, vs, rfl, h1, h2, h3, h4, h5⟩, hs, hb⟩ := h
  have hl := h3.1
  rw [hs.1] at hl
  cases vs with
  | nil => simp at hl
  | cons r0 vs =>
    cases A with
    | nil => have := hs.1; simp at this
    | cons zs0 A =>
      have hz0 := hs.2 zs0 (by simp)
      obtain ⟨gb, cb, rfl⟩ := own_openD h4.1 hb (by omega)
      obtain ⟨gr, cr, rfl⟩ := own_openD (h3.2.1 0 r0 zs0 rfl rfl).1 hz0 (by omega)
      rcases h1.cases with ⟨-, he⟩ | ⟨ga, ca, cur, he, -⟩
      · cases he
      · rw [hl] at he
        subst he
        exact ⟨ga, ca, gb, cb, gr, cr, vs, zs0, A, Bs, rfl, ⟨h1, h3, h4.1, h5⟩, hz0.1, hb.1⟩
theorem SpT.init {w w5 : World} {B p : Nat} {va vb : Value} {vs : List Value} {A : List (List Int)} {Bs : List Int} (h : Two w5 (w.heap.size + 1) va vb vs A Bs) (hk : Blk w5 w.heap.size tTb #[.slice none 0 0, .slice none 0 0]) (hg : w.grownBy w5 (some p)) (hs : Src w5 B tSc p) :
    SpT w (w5.alloc (.cells #[va, vb] tTb)) B p w5.heap.size va vb vs A Bs := by
  have hb := below1 w5 (.cells #[va, vb] tTb)
  have hlt := hk.lt
  exact ⟨h.step hb, Blk.new _ _ _, hk.below hb hlt, by omega, gtrans hg (gof hb), hs.below hb⟩
set_option maxHeartbeats 32000000 in
theorem s_l09Spoil (w : World) (B p most : Nat) (h : Src w B tSc p) (hm1 : 1 ≤ most) (hm8 : most ≤ 8) :
    Calls Try.prog 48 #[at0 p, .int .i64 (most : Nat)] w fun e w' => ∃ v, e = .returned v ∧ (∃ A Bs, Stab w' w.heap.size v A Bs) ∧ w.grownBy w' (some p) ∧ Src w' B tSc p := by
  have hpl := h.lt
  have HBp := Lib.hid h.ge
  obtain ⟨W, hW⟩ : ∃ W, W = w.alloc (.cells #[.slice none 0 0, .slice none 0 0] tTb) := ⟨_, rfl⟩
  have HSW := Lib.hid (show W.heap.size = w.heap.size + 1 from by rw [hW]; simp)
  have HKR := Lib.hid (show Blk W w.heap.size tTb #[.slice none 0 0, .slice none 0 0] from by rw [hW]; exact Blk.new _ _ _)
  have HG0 := Lib.hid (show w.grownBy W (some p) from gof (by rw [hW]; exact below1 w _))
  have HS0 := Lib.hid (show Src W B tSc p from h.below (by rw [hW]; exact below1 w _))
  clear h
  go_enter Try.func48, Try.ntmps48
  go_upto_region 1 with fail
  rw [← hW]
  clear hW
  go_upto_region 2 with (go_at_call 87; go_loud (refine (s_l09Draw W B p most HS0.out hm1 hm8).mono ?_; rintro e w5 ⟨v5, n, rfl, hd, hn1, hn8, hg, hs⟩; obtain ⟨n0, rfl⟩ : ∃ n0, n = n0 + 1 := ⟨n - 1, by omega⟩; obtain ⟨ga, ca, gb, cb, gr, cr, vs, zs0, A, Bs, rfl, ht, hz0, hbl⟩ := hd.parts; rw [HSW.out] at ht; have HT5 := Lib.hid (SpT.init ht (HKR.out.srcD hg (by omega)) (gtrans HG0.out hg) hs); have HZ0 := Lib.hid hz0; have HBL := Lib.hid hbl; clear ht hz0 hbl hd hg hs))
  clear HKR HG0 HS0
  obtain ⟨q, hq⟩ : ∃ q, q = w5.heap.size := ⟨_, rfl⟩
  obtain ⟨W6, hW6⟩ : ∃ W6, W6 = w5.alloc (.cells #[.slice (some ⟨ga, 0, none⟩) (n0 + 1) ca, .slice (some ⟨gb, 0, none⟩) (n0 + 1) cb] tTb) := ⟨_, rfl⟩
  rw [← hq, ← hW6] at HT5
  rw [← hW6, ← hq]
  clear hq hW6
  go_upto_region 3 with (go_at_call 88; go_loud (refine (s_l01Next _ B p 40 HT5.out.src (by omega) (by omega)).mono ?_; rintro e w6 ⟨x, rfl, x0, x1, hg, hs⟩; have HT := Lib.hid (HT5.out.draw hpl hg hs); clear hg hs))
  clear HT5
  have hqa : w6.cell? ⟨q, 0, none⟩ = some (.slice (some ⟨ga, 0, none⟩) (n0 + 1) ca) := HT.out.blk.cell 0
  have hqb : w6.cell? ⟨q, 1, none⟩ = some (.slice (some ⟨gb, 0, none⟩) (n0 + 1) cb) := HT.out.blk.cell 1
  have hfa : w6.frozen? ⟨q, 0, none⟩ = false := HT.out.blk.frozen 0
  have hfb : w6.frozen? ⟨q, 1, none⟩ = false := HT.out.blk.frozen 1
  have hqs : w.heap.size + 1 ≤ w6.heap.size := by have h1 := HT.out.ge; have h2 := HT.out.blk.lt; omega
  have HQS := Lib.hid hqs
  clear hqs
  by_cases hx0 : x = 0
  · subst hx0
    go_upto_region 13 with (at_builtin; go_loud (refine wpList_app1 T_int HT.out.two.ws.1 (by rw [ints_len, HBL.out]; omega) HQS.out (by rfl) rfl (by rfl) (by rfl) (by rfl) ?_; intro v7 w7 hown7 hgr7; have hop7 := hown7.cells.open_; (obtain ⟨A7, c7, hv7, -, -⟩ := hop7); have he7 : v7 = .slice A7 (n0 + 1 + 1) c7 := (by rw [List.length_append, ints_len, HBL.out] at hv7; exact hv7); clear hv7; subst he7; have hsp := HT.out.addB hpl (by unfold In64; omega) hown7 hgr7; have HE := Lib.hid hsp.2; have r0 : w7.cell? ⟨q, 1, none⟩ = some (.slice (some ⟨gb, 0, none⟩) (n0 + 1) cb) := hsp.1.cell 1; have r1 : w7.frozen? ⟨q, 1, none⟩ = false := hsp.1.frozen 1; clear hown7 hgr7 hsp))
    clear hqa hqb hfa hfb r0 r1
    obtain ⟨wz, hwz⟩ : ∃ wz, wz = w7.setCell ⟨q, 1, none⟩ (.slice A7 (n0 + 1 + 1) c7) := ⟨_, rfl⟩
    rw [← hwz] at HE ⊢
    clear hwz
    have HDz := HE.out
    have q0 : wz.cell? ⟨q, 0, none⟩ = some (.slice (some ⟨ga, 0, none⟩) (n0 + 1) ca) := HDz.blk.cell 0
    have q1 : wz.cell? ⟨q, 1, none⟩ = some (.slice A7 (n0 + 1 + 1) c7) := HDz.blk.cell 1
    have p0 : wz.cell? ⟨w.heap.size, 0, none⟩ = some (.slice none 0 0) := HDz.res.cell 0
    have p1 : wz.cell? ⟨w.heap.size, 1, none⟩ = some (.slice none 0 0) := HDz.res.cell 1
    have f0 : wz.frozen? ⟨w.heap.size, 0, none⟩ = false := HDz.res.frozen 0
    have f1 : wz.frozen? ⟨w.heap.size, 1, none⟩ = false := HDz.res.frozen 1
    have HBLK := Lib.hid (show Blk ((wz.setCell ⟨w.heap.size, 0, none⟩ (.slice (some ⟨ga, 0, none⟩) (n0 + 1) ca)).setCell ⟨w.heap.size, 1, none⟩ (.slice A7 (n0 + 1 + 1) c7)) w.heap.size tTb #[.slice (some ⟨ga, 0, none⟩) (n0 + 1) ca, .slice A7 (n0 + 1 + 1) c7] from by have h := (HDz.res.set_ 0 (.slice (some ⟨ga, 0, none⟩) (n0 + 1) ca)).set_ 1 (.slice A7 (n0 + 1 + 1) c7); simpa using h)
    obtain ⟨hfin, hgf, hsf⟩ := HDz.fin hpl
    have HF := Lib.hid hfin
    have HGF := Lib.hid hgf
    have HSF := Lib.hid hsf
    clear hfin hgf hsf HDz
    go_wp2_with fail
    have g0 := HBLK.out.cell 0
    have g1 := HBLK.out.cell 1
    simp only [List.getElem?_toArray, List.getElem?_cons_zero, List.getElem?_cons_succ] at g0 g1
    exact bodyPost_ret (v := .agg #[.slice (some ⟨ga, 0, none⟩) (n0 + 1) ca, .slice A7 (n0 + 1 + 1) c7]) (by simp [results, Try.results48, go_sem, g0, g1]) rfl ⟨_, rfl, HF.out, HGF.out, HSF.out⟩

  · by_cases hx1 : x = 1
    · subst hx1
      have hca : w6.cell? ⟨ga, 0, none⟩ = some (.slice (some ⟨gr, 0, none⟩) (n0 + 1) cr) := HT.out.rowCell
      have hca2 : ∀ o, (w6.alloc o).cell? ⟨ga, 0, none⟩ = some (.slice (some ⟨gr, 0, none⟩) (n0 + 1) cr) := fun o => (HT.out.below hpl (below1 w6 o)).rowCell
      have hqa2 : ∀ o, (w6.alloc o).cell? ⟨q, 0, none⟩ = some (.slice (some ⟨ga, 0, none⟩) (n0 + 1) ca) := fun o => (HT.out.below hpl (below1 w6 o)).blk.cell 0
      have hbd : Below w6.heap.size w6 w6.drew := (Below.refl _ _).drew
      have HTd := Lib.hid (HT.out.below hpl hbd)
      go_upto_region 6 with fail
      go_region_law (go_loud (refine step_app1 T_int (B := w.heap.size + 1) (W := w6.drew) (v := .slice (some ⟨gr, 0, none⟩) (n0 + 1) cr) (vs := ints zs0) (u := .int .i64 1) (HTd.out.two.rows.2.1 0 _ zs0 rfl rfl).1.1 (by rw [ints_len, HZ0.out]; omega) HQS.out (by rfl) rfl (by rfl) (by rfl) (by rfl) ?_; intro v7 w7 hown7 hgr7; have hop7 := hown7.cells.open_; (obtain ⟨A7, c7, hv7, -, -⟩ := hop7); have he7 : v7 = .slice A7 (n0 + 1 + 1) c7 := (by rw [List.length_append, ints_len, HZ0.out] at hv7; exact hv7); clear hv7; subst he7; obtain ⟨⟨u7, r0⟩, r1, r2, hsp⟩ := HTd.out.row0 hpl (by unfold In64; omega) hown7 hgr7; have HE := Lib.hid hsp; have r3 : w7.cell? ⟨q, 0, none⟩ = some (.slice (some ⟨ga, 0, none⟩) (n0 + 1) ca) := r2.cell 0; clear hown7 hgr7 hsp r2))
      all_goals
        go_upto_region 13 with fail
        clear hqa hqb hfa hfb hca hca2 hqa2 r0 r1 r3
        obtain ⟨wz, hwz⟩ : ∃ wz, wz = w7.setCell ⟨ga, 0, none⟩ (.slice A7 (n0 + 1 + 1) c7) := ⟨_, rfl⟩
        rw [← hwz] at HE ⊢
        clear hwz
        have HDz := HE.out
        have q0 : wz.cell? ⟨q, 0, none⟩ = some (.slice (some ⟨ga, 0, none⟩) (n0 + 1) ca) := HDz.blk.cell 0
        have q1 : wz.cell? ⟨q, 1, none⟩ = some (.slice (some ⟨gb, 0, none⟩) (n0 + 1) cb) := HDz.blk.cell 1
        have p0 : wz.cell? ⟨w.heap.size, 0, none⟩ = some (.slice none 0 0) := HDz.res.cell 0
        have p1 : wz.cell? ⟨w.heap.size, 1, none⟩ = some (.slice none 0 0) := HDz.res.cell 1
        have f0 : wz.frozen? ⟨w.heap.size, 0, none⟩ = false := HDz.res.frozen 0
        have f1 : wz.frozen? ⟨w.heap.size, 1, none⟩ = false := HDz.res.frozen 1
        have HBLK := Lib.hid (show Blk ((wz.setCell ⟨w.heap.size, 0, none⟩ (.slice (some ⟨ga, 0, none⟩) (n0 + 1) ca)).setCell ⟨w.heap.size, 1, none⟩ (.slice (some ⟨gb, 0, none⟩) (n0 + 1) cb)) w.heap.size tTb #[.slice (some ⟨ga, 0, none⟩) (n0 + 1) ca, .slice (some ⟨gb, 0, none⟩) (n0 + 1) cb] from by have h := (HDz.res.set_ 0 (.slice (some ⟨ga, 0, none⟩) (n0 + 1) ca)).set_ 1 (.slice (some ⟨gb, 0, none⟩) (n0 + 1) cb); simpa using h)
        obtain ⟨hfin, hgf, hsf⟩ := HDz.fin hpl
        have HF := Lib.hid hfin
        have HGF := Lib.hid hgf
        have HSF := Lib.hid hsf
        clear hfin hgf hsf HDz
        go_wp2_with fail
        have g0 := HBLK.out.cell 0
        have g1 := HBLK.out.cell 1
        simp only [List.getElem?_toArray, List.getElem?_cons_zero, List.getElem?_cons_succ] at g0 g1
        exact bodyPost_ret (v := .agg #[.slice (some ⟨ga, 0, none⟩) (n0 + 1) ca, .slice (some ⟨gb, 0, none⟩) (n0 + 1) cb]) (by simp [results, Try.results48, go_sem, g0, g1]) rfl ⟨_, rfl, HF.out, HGF.out, HSF.out⟩

    · by_cases hx2 : x = 2
      · subst hx2
        have hca : w6.cell? ⟨ga, 0, none⟩ = some (.slice (some ⟨gr, 0, none⟩) (n0 + 1) cr) := HT.out.rowCell
        have hca2 : ∀ o, (w6.alloc o).cell? ⟨ga, 0, none⟩ = some (.slice (some ⟨gr, 0, none⟩) (n0 + 1) cr) := fun o => (HT.out.below hpl (below1 w6 o)).rowCell
        have hqa2 : ∀ o, (w6.alloc o).cell? ⟨q, 0, none⟩ = some (.slice (some ⟨ga, 0, none⟩) (n0 + 1) ca) := fun o => (HT.out.below hpl (below1 w6 o)).blk.cell 0
        have hbd : Below w6.heap.size w6 (w6.drew.alloc (.cells #[.int .i64 (-1), .int .i64 10007] tI)) := ((Below.refl _ _).drew).alloc (Nat.le_refl _) _
        have HTd := Lib.hid (HT.out.below hpl hbd)
        have HLI := Lib.hid (show ∀ X, (w6.drew.alloc (.cells #[.int .i64 (-1), .int .i64 10007] tI)).grownBy X (some p) → Ints X (.slice (some ⟨w6.heap.size, 0, none⟩) 2 2) [-1, 10007] from lit_keep w6.drew p [-1, 10007] (by intro z hz; simp at hz; unfold In64; omega) (by simp) (by have h1 := HQS.out; show p < w6.heap.size; omega))
        go_upto_region 8 with fail
        go_region_law (go_simp; go_at_call 89; (with_reducible refine (s_l01Pick _ B p _ [-1, 10007] ?_ ?_ ?_ ?_).mono ?_); (exact HTd.out.src); (exact HLI.out); (simp); (simp); go_loud (rintro e w7 ⟨z, rfl, hzm, hg, hs⟩; have hz64 : In64 z := (by simp at hzm; unfold In64; omega); have HT7 := Lib.hid (HTd.out.draw hpl hg hs); obtain ⟨⟨u7, r0⟩, r1, hsp⟩ := HT7.out.cell0 hpl hz64 (by rw [HZ0.out]; omega); have HE := Lib.hid hsp; have r3 : w7.cell? ⟨q, 0, none⟩ = some (.slice (some ⟨ga, 0, none⟩) (n0 + 1) ca) := HT7.out.blk.cell 0; have r4 : w7.cell? ⟨ga, 0, none⟩ = some (.slice (some ⟨gr, 0, none⟩) (n0 + 1) cr) := HT7.out.rowCell; clear hg hs hsp hzm hz64))
        all_goals
          go_upto_region 13 with fail
          clear hqa hqb hfa hfb hca hca2 hqa2 r0 r1 r3 r4
          obtain ⟨wz, hwz⟩ : ∃ wz, wz = w7.setCell ⟨gr, 0, none⟩ (.int .i64 z) := ⟨_, rfl⟩
          rw [← hwz] at HE ⊢
          clear hwz
          have HDz := HE.out
          have q0 : wz.cell? ⟨q, 0, none⟩ = some (.slice (some ⟨ga, 0, none⟩) (n0 + 1) ca) := HDz.blk.cell 0
          have q1 : wz.cell? ⟨q, 1, none⟩ = some (.slice (some ⟨gb, 0, none⟩) (n0 + 1) cb) := HDz.blk.cell 1
          have p0 : wz.cell? ⟨w.heap.size, 0, none⟩ = some (.slice none 0 0) := HDz.res.cell 0
          have p1 : wz.cell? ⟨w.heap.size, 1, none⟩ = some (.slice none 0 0) := HDz.res.cell 1
          have f0 : wz.frozen? ⟨w.heap.size, 0, none⟩ = false := HDz.res.frozen 0
          have f1 : wz.frozen? ⟨w.heap.size, 1, none⟩ = false := HDz.res.frozen 1
          have HBLK := Lib.hid (show Blk ((wz.setCell ⟨w.heap.size, 0, none⟩ (.slice (some ⟨ga, 0, none⟩) (n0 + 1) ca)).setCell ⟨w.heap.size, 1, none⟩ (.slice (some ⟨gb, 0, none⟩) (n0 + 1) cb)) w.heap.size tTb #[.slice (some ⟨ga, 0, none⟩) (n0 + 1) ca, .slice (some ⟨gb, 0, none⟩) (n0 + 1) cb] from by have h := (HDz.res.set_ 0 (.slice (some ⟨ga, 0, none⟩) (n0 + 1) ca)).set_ 1 (.slice (some ⟨gb, 0, none⟩) (n0 + 1) cb); simpa using h)
          obtain ⟨hfin, hgf, hsf⟩ := HDz.fin hpl
          have HF := Lib.hid hfin
          have HGF := Lib.hid hgf
          have HSF := Lib.hid hsf
          clear hfin hgf hsf HDz
          go_wp2_with fail
          have g0 := HBLK.out.cell 0
          have g1 := HBLK.out.cell 1
          simp only [List.getElem?_toArray, List.getElem?_cons_zero, List.getElem?_cons_succ] at g0 g1
          exact bodyPost_ret (v := .agg #[.slice (some ⟨ga, 0, none⟩) (n0 + 1) ca, .slice (some ⟨gb, 0, none⟩) (n0 + 1) cb]) (by simp [results, Try.results48, go_sem, g0, g1]) rfl ⟨_, rfl, HF.out, HGF.out, HSF.out⟩

      · by_cases hx3 : x = 3
        · subst hx3
          go_upto_region 13 with fail
          have HE := Lib.hid (HT.out.nil0 hpl)
          clear hqa hqb hfa hfb
          obtain ⟨wz, hwz⟩ : ∃ wz, wz = (w6.setCell ⟨q, 0, none⟩ (.slice none 0 0)).setCell ⟨q, 1, none⟩ (.slice none 0 0) := ⟨_, rfl⟩
          rw [← hwz] at HE ⊢
          clear hwz
          have HDz := HE.out
          have q0 : wz.cell? ⟨q, 0, none⟩ = some (.slice none 0 0) := HDz.blk.cell 0
          have q1 : wz.cell? ⟨q, 1, none⟩ = some (.slice none 0 0) := HDz.blk.cell 1
          have p0 : wz.cell? ⟨w.heap.size, 0, none⟩ = some (.slice none 0 0) := HDz.res.cell 0
          have p1 : wz.cell? ⟨w.heap.size, 1, none⟩ = some (.slice none 0 0) := HDz.res.cell 1
          have f0 : wz.frozen? ⟨w.heap.size, 0, none⟩ = false := HDz.res.frozen 0
          have f1 : wz.frozen? ⟨w.heap.size, 1, none⟩ = false := HDz.res.frozen 1
          have HBLK := Lib.hid (show Blk ((wz.setCell ⟨w.heap.size, 0, none⟩ (.slice none 0 0)).setCell ⟨w.heap.size, 1, none⟩ (.slice none 0 0)) w.heap.size tTb #[.slice none 0 0, .slice none 0 0] from by have h := (HDz.res.set_ 0 (.slice none 0 0)).set_ 1 (.slice none 0 0); simpa using h)
          obtain ⟨hfin, hgf, hsf⟩ := HDz.fin hpl
          have HF := Lib.hid hfin
          have HGF := Lib.hid hgf
          have HSF := Lib.hid hsf
          clear hfin hgf hsf HDz
          go_wp2_with fail
          have g0 := HBLK.out.cell 0
          have g1 := HBLK.out.cell 1
          simp only [List.getElem?_toArray, List.getElem?_cons_zero, List.getElem?_cons_succ] at g0 g1
          exact bodyPost_ret (v := .agg #[.slice none 0 0, .slice none 0 0]) (by simp [results, Try.results48, go_sem, g0, g1]) rfl ⟨_, rfl, HF.out, HGF.out, HSF.out⟩

        · by_cases hx4 : x = 4
          · subst hx4
            go_upto_region 13 with fail
            have HE := Lib.hid (HT.out.tail hpl)
            clear hqa hqb hfa hfb
            obtain ⟨A2, hA2⟩ : ∃ A2 : Option Addr, A2 = if ca = 1 then some ⟨ga, 0, none⟩ else some ⟨ga, 1, none⟩ := ⟨_, rfl⟩
            rw [← hA2] at HE ⊢
            clear hA2
            obtain ⟨wz, hwz⟩ : ∃ wz, wz = w6.setCell ⟨q, 0, none⟩ (.slice A2 n0 (ca - 1)) := ⟨_, rfl⟩
            rw [← hwz] at HE ⊢
            clear hwz
            have HDz := HE.out
            have q0 : wz.cell? ⟨q, 0, none⟩ = some (.slice A2 n0 (ca - 1)) := HDz.blk.cell 0
            have q1 : wz.cell? ⟨q, 1, none⟩ = some (.slice (some ⟨gb, 0, none⟩) (n0 + 1) cb) := HDz.blk.cell 1
            have p0 : wz.cell? ⟨w.heap.size, 0, none⟩ = some (.slice none 0 0) := HDz.res.cell 0
            have p1 : wz.cell? ⟨w.heap.size, 1, none⟩ = some (.slice none 0 0) := HDz.res.cell 1
            have f0 : wz.frozen? ⟨w.heap.size, 0, none⟩ = false := HDz.res.frozen 0
            have f1 : wz.frozen? ⟨w.heap.size, 1, none⟩ = false := HDz.res.frozen 1
            have HBLK := Lib.hid (show Blk ((wz.setCell ⟨w.heap.size, 0, none⟩ (.slice A2 n0 (ca - 1))).setCell ⟨w.heap.size, 1, none⟩ (.slice (some ⟨gb, 0, none⟩) (n0 + 1) cb)) w.heap.size tTb #[.slice A2 n0 (ca - 1), .slice (some ⟨gb, 0, none⟩) (n0 + 1) cb] from by have h := (HDz.res.set_ 0 (.slice A2 n0 (ca - 1))).set_ 1 (.slice (some ⟨gb, 0, none⟩) (n0 + 1) cb); simpa using h)
            obtain ⟨hfin, hgf, hsf⟩ := HDz.fin hpl
            have HF := Lib.hid hfin
            have HGF := Lib.hid hgf
            have HSF := Lib.hid hsf
            clear hfin hgf hsf HDz
            go_wp2_with fail
            have g0 := HBLK.out.cell 0
            have g1 := HBLK.out.cell 1
            simp only [List.getElem?_toArray, List.getElem?_cons_zero, List.getElem?_cons_succ] at g0 g1
            exact bodyPost_ret (v := .agg #[.slice A2 n0 (ca - 1), .slice (some ⟨gb, 0, none⟩) (n0 + 1) cb]) (by simp [results, Try.results48, go_sem, g0, g1]) rfl ⟨_, rfl, HF.out, HGF.out, HSF.out⟩

          · go_upto_region 13 with fail
            have HE := Lib.hid HT.out.toS
            clear hqa hqb hfa hfb
            obtain ⟨wz, hwz⟩ : ∃ wz, wz = w6 := ⟨_, rfl⟩
            rw [← hwz] at HE ⊢
            clear hwz
            have HDz := HE.out
            have q0 : wz.cell? ⟨q, 0, none⟩ = some (.slice (some ⟨ga, 0, none⟩) (n0 + 1) ca) := HDz.blk.cell 0
            have q1 : wz.cell? ⟨q, 1, none⟩ = some (.slice (some ⟨gb, 0, none⟩) (n0 + 1) cb) := HDz.blk.cell 1
            have p0 : wz.cell? ⟨w.heap.size, 0, none⟩ = some (.slice none 0 0) := HDz.res.cell 0
            have p1 : wz.cell? ⟨w.heap.size, 1, none⟩ = some (.slice none 0 0) := HDz.res.cell 1
            have f0 : wz.frozen? ⟨w.heap.size, 0, none⟩ = false := HDz.res.frozen 0
            have f1 : wz.frozen? ⟨w.heap.size, 1, none⟩ = false := HDz.res.frozen 1
            have HBLK := Lib.hid (show Blk ((wz.setCell ⟨w.heap.size, 0, none⟩ (.slice (some ⟨ga, 0, none⟩) (n0 + 1) ca)).setCell ⟨w.heap.size, 1, none⟩ (.slice (some ⟨gb, 0, none⟩) (n0 + 1) cb)) w.heap.size tTb #[.slice (some ⟨ga, 0, none⟩) (n0 + 1) ca, .slice (some ⟨gb, 0, none⟩) (n0 + 1) cb] from by have h := (HDz.res.set_ 0 (.slice (some ⟨ga, 0, none⟩) (n0 + 1) ca)).set_ 1 (.slice (some ⟨gb, 0, none⟩) (n0 + 1) cb); simpa using h)
            obtain ⟨hfin, hgf, hsf⟩ := HDz.fin hpl
            have HF := Lib.hid hfin
            have HGF := Lib.hid hgf
            have HSF := Lib.hid hsf
            clear hfin hgf hsf HDz
            go_wp2_with fail
            have g0 := HBLK.out.cell 0
            have g1 := HBLK.out.cell 1
            simp only [List.getElem?_toArray, List.getElem?_cons_zero, List.getElem?_cons_succ] at g0 g1
            exact bodyPost_ret (v := .agg #[.slice (some ⟨ga, 0, none⟩) (n0 + 1) ca, .slice (some ⟨gb, 0, none⟩) (n0 + 1) cb]) (by simp [results, Try.results48, go_sem, g0, g1]) rfl ⟨_, rfl, HF.out, HGF.out, HSF.out⟩

end Go.Proofs.Ytnlaoainhlfemaa

set_option maxRecDepth 100000
set_option linter.unusedVariables false
set_option linter.unusedSimpArgs false
namespace Go.Proofs.Ytnlaoainhlfemaa
open Go.RowKit

theorem ByB.belowS {w w' : World} {B n : Nat} {A : Option Addr} (h : ByB w B A n) (hB : B ≤ w.heap.size) (hb : Below B w w') : ByB w' B A n := fun k hk => by
  obtain ⟨ad, z, rfl, h1, h2, h3, h4, h5⟩ := h k hk
  exact ⟨ad, z, rfl, h1, Nat.lt_of_lt_of_le h2 hb.size, h3, h4, by rw [hb.cell (by rw [block_add]; exact h1)]; exact h5⟩
theorem ByB.monoS {w : World} {B B' n : Nat} {A : Option Addr} (h : ByB w B A n) (hB : B ≤ B') : ByB w B' A n := fun k hk => by
  obtain ⟨ad, z, rfl, h1, h2⟩ := h k hk
  exact ⟨ad, z, rfl, Nat.lt_of_lt_of_le h1 hB, h2⟩
end Go.Proofs.Ytnlaoainhlfemaa

set_option maxRecDepth 100000
set_option linter.unusedVariables false
set_option linter.unusedSimpArgs false
namespace Go.Proofs.Ytnlaoainhlfemaa
open Go.RowKit

def rowTo (zs : List Int) (i m : Nat) : List Int := (List.range m).map fun j => integ (lag zs j) (zs.getD i 0)
theorem rowTo_succ (zs : List Int) (i m : Nat) : rowTo zs i (m + 1) = rowTo zs i m ++ [integ (lag zs m) (zs.getD i 0)] := by simp [rowTo, List.range_succ]
theorem rowTo_len (zs : List Int) (i m : Nat) : (rowTo zs i m).length = m := by simp [rowTo]
theorem rowTo_in (zs : List Int) (i m : Nat) : ∀ z ∈ rowTo zs i m, In64 z := by
  intro z hz
  obtain ⟨j, _, rfl⟩ := List.mem_map.1 hz
  have := integ_bd (lag zs j) (zs.getD i 0)
  unfold In64
  omega
theorem lag_nums (zs : List Int) (j : Nat) : Nums (lag zs j) := lagI_nums _ _ _ _
theorem lag_le5 (zs : List Int) (j : Nat) : (lag zs j).length ≤ zs.length + 1 := (lagI_len _ _ _ _).2

set_option maxHeartbeats 4000000 in
theorem s_l11Collocation (w : World) (v : Value) (zs : List Int) (ha : Ints w v zs) (hN : Nums zs) (hn : zs.length ≤ 900) :
    Calls Try.prog 108 #[v] w fun e w' => ∃ r, e = .returned r ∧ OT w' w.heap.size w'.heap.size r (colA zs zs.length) (colB zs zs.length) ∧ Below w.heap.size w w' := by
  have HA := Lib.hid ha
  obtain ⟨A, c, rfl, l1, l2, h3⟩ := ha.open_
  have H3 := Lib.hid h3
  have HN := Lib.hid hN
  clear h3 ha hN
  go_enter Try.func108, Try.ntmps108
  go_wp2_with fail
  have HF := Lib.hid (show Fill2 w ((w.alloc (.cells #[.slice none 0 0, .slice none 0 0] 27)).alloc (.cells #[.slice none 0 0, .slice none 0 0] 27)) (w.heap.size + 1) (.slice none 0 0) (.slice none 0 0) [] [] [] from
    ⟨Blk.new1 _ _ _ _, Own.nil _ _ _, RowsOwn.nil _ _ _ _, OwnInts.nil _ _ _, fun k u hu => by simp at hu, below2 _ _ _⟩)
  have K0 := Lib.hid ((Blk.new w #[.slice none 0 0, .slice none 0 0] 27).alloc (.cells #[.slice none 0 0, .slice none 0 0] 27))
  generalize ((w.alloc (.cells #[.slice none 0 0, .slice none 0 0] 27)).alloc (.cells #[.slice none 0 0, .slice none 0 0] 27)) = w3 at HF K0 ⊢
  go_loopw [4] (fun i wr => ∃ (j : Nat) (va vb : Value) (vs : List Value), j ≤ zs.length ∧ i = .int .i64 j ∧ Fill2 w wr (w.heap.size + 1) va vb vs (colA zs j) (colB zs j) ∧ Blk wr w.heap.size 27 #[.slice none 0 0, .slice none 0 0]) (fun i _ => zs.length - (intOf i).toNat)
  case atStart => exact ⟨0, _, _, [], Nat.zero_le _, rfl, HF.out, K0.out⟩
  case round =>
    obtain ⟨j, va, vb, vs, hj, rfl, hfill, hk0⟩ := hrel
    clear HF K0
    have HF := Lib.hid hfill
    have K0 := Lib.hid hk0
    clear hfill hk0
    by_cases hlt : j < zs.length
    · obtain ⟨ad, x, rfl, hx, hx64, hcx0⟩ := H3.out j hlt
      have hxn := HN.out x (List.mem_of_getElem? hx)
      have HX := Lib.hid (show zs.getD j 0 = x by simp [List.getD, hx])
      have HC := Lib.hid hcx0
      have hji : (j : Int) < (zs.length : Int) := by omega
      clear hx hcx0
      have OL := Lib.hid (own_lit wr tI [] (by simp [maxLen]))
      go_wp2_with fail
      obtain ⟨wo, rfl⟩ : ∃ wo : World, wo = wr := ⟨_, rfl⟩
      go_loopw [5, 6] (fun o k wi => ∃ m : Nat, m ≤ zs.length ∧ k = .int .i64 m ∧ Own wi wo.heap.size tI o (ints (rowTo zs j m)) ∧ Below wo.heap.size wo wi) (fun _ k _ => zs.length - (intOf k).toNat)
      case atStart => exact ⟨0, Nat.zero_le _, rfl, by simpa [rowTo, ints] using OL.out, below1 _ _⟩
      case round =>
        obtain ⟨m, hm, rfl, hown, hb⟩ := hrel
        clear OL
        have HO := Lib.hid hown
        have HB := Lib.hid hb
        have HW := Lib.hid (HF.out.below.trans (hb.mono HF.out.below.size))
        clear hown hb
        by_cases hlt2 : m < zs.length
        · have hc : wr.cell? (ad.add j) = some (.int .i64 x) := by
            rw [HW.out.cell (by rw [block_add]; have := World.block_lt_of_cell? w _ HC.out; rwa [block_add] at this)]; exact HC.out
          have HPR := Lib.hid (rowTo_succ zs j m)
          have hmi : (m : Int) < (zs.length : Int) := by omega
          have hll := lag_le5 zs m
          go_wp2_with fail
          go_region_law (first
            | (refine step_app1 T_int (B := wo.heap.size) (W := w5.drewN n7) (show Own (w5.drewN n7) wo.heap.size tI _ (ints (rowTo zs j m)) from HO.out.below (below_drewN (below_of_drew hb5) _)) (by rw [ints_len, rowTo_len]; omega) (by have h1 := HB.out.size; have h2 := hb5.size; simp at h2 ⊢; omega) (by rfl) rfl (by rfl) (by rfl) (by rfl) ?_; intro v6 w6 hown6 hgr6)
            | (go_simp; go_at_call 161; refine (s_l11Lagrange _ _ zs m (by exact HA.out.below HW.out.drew) HN.out (by omega) hlt2).mono ?_; rintro e w5 ⟨r5, rfl, ho5, hb5⟩; have hc5 : w5.cell? (ad.add j) = some (.int .i64 x) := (by rw [hb5.cell (by exact World.block_lt_of_cell? wr _ hc)]; exact hc))
            | (go_simp; go_at_call 160; refine (s_l11Integral _ _ (lag zs m) x (by exact ho5.ints) (lag_nums _ _) (by omega) hxn.1 hxn.2).mono ?_; rintro e w7 ⟨rfl, n7, rfl⟩))
          all_goals
            have HN6 := Lib.hid (hgr6.below (B := wo.heap.size) (below_drewN (HB.out.trans ((below_of_drew hb5).mono HB.out.size)) _) (by have h1 := HB.out.size; have h2 := hb5.size; simp at h2 ⊢; omega) HO.out.ge)
            have HO6 := Lib.hid hown6
            clear hown6 hgr6 ho5 hb5 hc5 hc
            go_wp2_with fail
            go_roundw
            case rel =>
              refine ⟨m + 1, by omega, by go_num, ?_, HN6.out⟩
              rw [HPR.out, HX.out]
              simpa [ints] using HO6.out
            case measure => simp [intOf]; omega
        · have : m = zs.length := by omega
          subst this
          have HIN := Lib.hid (rowTo_in zs j zs.length)
          obtain ⟨A6, c6, hv6, -, -, -⟩ := (show Ints wr _ (rowTo zs j zs.length) from ⟨HO.out.cells, HIN.out⟩).open_
          rw [rowTo_len] at hv6
          subst hv6
          have HF2 := Lib.hid (HF.out.step HB.out)
          have q0 : wr.cell? ⟨w.heap.size + 1, 0, none⟩ = some va := HF2.out.blk.cell 0
          have hll := lag_le5 zs j
          go_wp2_with (at_builtin; refine wpList_app1 T_row (B := w.heap.size + 1 + 1) (v := va) (vs := vs) HF2.out.own (by have := HF2.out.rows.1; rw [colA_len] at this; omega) (by have := HF2.out.lt; omega) (by rfl) rfl (by rfl) (by rfl) (by rfl) ?_; intro v1 w1 hown1 hgr1; obtain ⟨A8, c8, hv8, -, -⟩ := hown1.cells.open_; subst hv8; have q6 := ((HF2.out.blk.grow hgr1 HF2.out.npA).both (u := va) rfl).1; have q7 := ((HF2.out.blk.grow hgr1 HF2.out.npA).both (u := va) rfl).2)
          have HA2 := Lib.hid (HF.out.nextA' (zs := rowTo zs j zs.length) (Nat.le_succ _) HB.out ⟨HO.out, HIN.out⟩ hown1 hgr1)
          have KA := Lib.hid (((K0.out.below HB.out K0.out.lt).grow hgr1 (fun e => by have := HF.out.own.ge _ e; omega)).far (p := ⟨w.heap.size + 1, 0, none⟩) (by simp) (.slice A8 (vs ++ [Value.slice A6 zs.length c6]).length c8))
          simp only [List.length_append, List.length_singleton] at HA2 KA
          clear hown1 hgr1 q0 q6 q7 HO HF2 K0 hlt2
          generalize (w1.setCell ⟨w.heap.size + 1, 0, none⟩ (.slice A8 (vs.length + 1) c8)) = w2 at HA2 KA ⊢
          have HW2 := Lib.hid HA2.out.below
          have r0 : w2.cell? ⟨w.heap.size + 1, 1, none⟩ = some vb := HA2.out.blk.cell 1
          go_wp2_with fail
          go_region_law (first
            | (refine step_app1 T_int (B := w.heap.size + 1 + 1) (v := vb) (vs := ints (colB zs j)) (W := w5.drewN n7) (show Own (w5.drewN n7) (w.heap.size + 1 + 1) tI vb (ints (colB zs j)) from HA2.out.ws.1.below (below_drewN (below_of_drew hb5) _)) (by rw [ints_len, colB_len]; omega) (by have h1 := HA2.out.lt; have h2 := hb5.size; simp at h2 ⊢; omega) (by rfl) rfl (by rfl) (by rfl) (by rfl) ?_; intro v9 w9 hown9 hgr9; obtain ⟨A9, c9, hv9, -, -⟩ := hown9.cells.open_; subst hv9; have q6 : w9.cell? ⟨w.heap.size + 1, 1, none⟩ = some vb := ((HA2.out.step (below_drewN (below_of_drew hb5) n7)).blk.grow hgr9 HA2.out.npB).cell 1; have q7 := ((HA2.out.step (below_drewN (below_of_drew hb5) n7)).blk.grow hgr9 HA2.out.npB).frozen 1)
            | (go_simp; go_at_call 161; refine (s_l11Lagrange _ _ zs j (by exact HA.out.below HW2.out.drew) HN.out (by omega) hlt).mono ?_; rintro e w5 ⟨r5, rfl, ho5, hb5⟩; have r5a : w5.cell? ⟨w.heap.size + 1, 1, none⟩ = some vb := (HA2.out.step (below_of_drew hb5)).blk.cell 1; have r5b : ∀ o, (w5.alloc o).cell? ⟨w.heap.size + 1, 1, none⟩ = some vb := fun o => ((HA2.out.step (below_of_drew hb5)).blk.alloc o).cell 1)
            | (go_simp; go_at_call 160; refine (s_l11Integral _ _ (lag zs j) 1 (by exact ho5.ints) (lag_nums _ _) (by omega) (by omega) (by omega)).mono ?_; rintro e w7 ⟨rfl, n7, rfl⟩; have r7b : ∀ o, ((w5.drewN n7).alloc o).cell? ⟨w.heap.size + 1, 1, none⟩ = some vb := fun o => ((HA2.out.step (below_drewN (below_of_drew hb5) n7)).blk.alloc o).cell 1))
          all_goals
            have HZ64 := Lib.hid (show In64 (integ (lag zs j) 1) by have := integ_bd (lag zs j) 1; unfold In64; omega)
            have HB2 := Lib.hid ((HA2.out.step (below_drewN (below_of_drew hb5) n7)).nextB (Nat.le_succ _) HZ64.out hown9 hgr9)
            have KA2 := Lib.hid (((KA.out.below (below_drewN (below_of_drew hb5) n7) KA.out.lt).grow hgr9 (fun e => by have := HA2.out.ws.1.ge _ e; omega)).far (p := ⟨w.heap.size + 1, 1, none⟩) (by simp) (.slice A9 (ints (colB zs j) ++ [Value.int .i64 (integ (lag zs j) 1)]).length c9))
            simp only [List.length_append, List.length_singleton] at HB2 KA2
            clear hown9 hgr9 q6 q7 r0 r5a r5b r7b ho5 hb5
            go_wp2_with fail
            go_roundw
            case rel =>
              refine ⟨j + 1, .slice A8 (vs.length + 1) c8, .slice A9 ((ints (colB zs j)).length + 1) c9, vs ++ [.slice A6 zs.length c6], by omega, by go_num, ?_, KA2.out⟩
              rw [colA_succ, colB_succ]
              exact HB2.out
            case measure => simp [intOf]; omega
    · have : j = zs.length := by omega
      subst this
      obtain ⟨A7, c7, hv7, -, -⟩ := HF.out.own.cells.open_
      have hvl : vs.length = zs.length := by have := HF.out.rows.1; rwa [colA_len] at this
      rw [hvl] at hv7
      subst hv7
      obtain ⟨A9, c9, hv9, -, -⟩ := HF.out.ws.1.cells.open_
      rw [ints_len, colB_len] at hv9
      subst hv9
      have e0 : wr.cell? ⟨w.heap.size + 1, 0, none⟩ = some (.slice A7 zs.length c7) := HF.out.blk.cell 0
      have e1 : wr.cell? ⟨w.heap.size + 1, 1, none⟩ = some (.slice A9 zs.length c9) := HF.out.blk.cell 1
      have f0 : wr.cell? ⟨w.heap.size, 0, none⟩ = some (.slice none 0 0) := K0.out.cell 0
      have f1 : wr.cell? ⟨w.heap.size, 1, none⟩ = some (.slice none 0 0) := K0.out.cell 1
      have f2 := K0.out.frozen 0
      have f3 := K0.out.frozen 1
      have HTAB := Lib.hid HF.out.tab
      clear hvl
      go_wp2_with fail
      have c0 := Chg.refl w.heap.size (w.heap.size + 1) wr
      have c1' := c0.setCell (p := ⟨w.heap.size, 0, none⟩) (Nat.le_refl _) (by simp) (.slice A7 zs.length c7)
      have c2' := c1'.setCell (p := ⟨w.heap.size, 1, none⟩) (Nat.le_refl _) (by simp) (.slice A9 zs.length c9)
      have hsb := HF.out.below.size
      refine bodyPost_ret (v := .agg #[.slice A7 zs.length c7, .slice A9 zs.length c9]) (by simp [results, Try.results108, go_sem, f0, f1]) rfl ⟨_, rfl, (HTAB.out.kept c2' (.inr (by omega))).mono (by omega) c2'.size, c2'.below HF.out.below (by omega) hsb⟩
end Go.Proofs.Ytnlaoainhlfemaa

