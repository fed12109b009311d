/- Walk: l09Spoil of the reference. | Walk: DrawRepeatTableau. | Walk: DrawComposeTableaus. | Walks of helpers of the laws: likeInts, whole9, big. | Walks of helpers of the laws: likeRows5, likeTableau5. -/
import Derived.Test.YtnlaoainhlfemaaGreatCt27
import Derived.Test.YtnlaoainhlfemaaGreatCt4
import Derived.Test.YtnlaoainhlfemaaGreatCt3
import Derived.Test.YtnlaoainhlfemaaGreatCt24
import Derived.Test.YtnlaoainhlfemaaGreatCt9
set_option maxRecDepth 100000
set_option linter.unusedVariables false
set_option linter.unusedSimpArgs false
namespace Go.Proofs.YtnlaoainhlfemaaGreat
open Go.RowKit

/-- a drawn tableau, opened -/
theorem DT.parts {w : World} {C n0 : Nat} {v : Value} (h : DT w C v (n0 + 1)) : ∃ ga ca gb cb gr cr vs zs0 A Bs, v = .agg #[.slice (some ⟨ga, 0, none⟩) (n0 + 1) ca, .slice (some ⟨gb, 0, none⟩) (n0 + 1) cb] ∧
    Two w C (.slice (some ⟨ga, 0, none⟩) (n0 + 1) ca) (.slice (some ⟨gb, 0, none⟩) (n0 + 1) cb) (.slice (some ⟨gr, 0, none⟩) (n0 + 1) cr :: vs) (zs0 :: A) Bs ∧ zs0.length = n0 + 1 ∧ Bs.length = n0 + 1 := by
  obtain ⟨A, Bs, ⟨va, vb, vs, rfl, h1, h2, h3, h4, h5⟩, hs, hb⟩ := h
  have hl := h3.1
  rw [hs.1] at hl
  cases vs with
  | nil => simp at hl
  | cons r0 vs =>
    cases A with
    | nil => have := hs.1; simp at this
    | cons zs0 A =>
      have hz0 := hs.2 zs0 (by simp)
      obtain ⟨gb, cb, rfl⟩ := own_openD h4.1 hb (by omega)
      obtain ⟨gr, cr, rfl⟩ := own_openD (h3.2.1 0 r0 zs0 rfl rfl).1 hz0 (by omega)
      rcases h1.cases with ⟨-, he⟩ | ⟨ga, ca, cur, he, -⟩
      · cases he
      · rw [hl] at he
        subst he
        exact ⟨ga, ca, gb, cb, gr, cr, vs, zs0, A, Bs, rfl, ⟨h1, h3, h4.1, h5⟩, hz0.1, hb.1⟩
theorem SpT.init {w w5 : World} {B p : Nat} {va vb : Value} {vs : List Value} {A : List (List Int)} {Bs : List Int} (h : Two w5 (w.heap.size + 1) va vb vs A Bs) (hk : Blk w5 w.heap.size tTb #[.slice none 0 0, .slice none 0 0]) (hg : w.grownBy w5 (some p)) (hs : Src w5 B tSc p) :
    SpT w (w5.alloc (.cells #[va, vb] tTb)) B p w5.heap.size va vb vs A Bs := by
  have hb := below1 w5 (.cells #[va, vb] tTb)
  have hlt := hk.lt
  exact ⟨h.step hb, Blk.new _ _ _, hk.below hb hlt, by omega, gtrans hg (gof hb), hs.below hb⟩
set_option maxHeartbeats 32000000 in
theorem s_l09Spoil (w : World) (B p most : Nat) (h : Src w B tSc p) (hm1 : 1 ≤ most) (hm8 : most ≤ 8) :
    Calls Tryz.prog 90 #[at0 p, .int .i64 (most : Nat)] w fun e w' => ∃ v, e = .returned v ∧ (∃ A Bs, Stab w' w.heap.size v A Bs) ∧ w.grownBy w' (some p) ∧ Src w' B tSc p := by
  have hpl := h.lt
  have HBp := Lib.hid h.ge
  obtain ⟨W, hW⟩ : ∃ W, W = w.alloc (.cells #[.slice none 0 0, .slice none 0 0] tTb) := ⟨_, rfl⟩
  have HSW := Lib.hid (show W.heap.size = w.heap.size + 1 from by rw [hW]; simp)
  have HKR := Lib.hid (show Blk W w.heap.size tTb #[.slice none 0 0, .slice none 0 0] from by rw [hW]; exact Blk.new _ _ _)
  have HG0 := Lib.hid (show w.grownBy W (some p) from gof (by rw [hW]; exact below1 w _))
  have HS0 := Lib.hid (show Src W B tSc p from h.below (by rw [hW]; exact below1 w _))
  clear h
  go_enter Tryz.func90, Tryz.ntmps90
  go_upto_region 1 with fail
  rw [← hW]
  clear hW
  go_upto_region 2 with (go_at_call 163; go_loud (refine (s_l09Draw W B p most HS0.out hm1 hm8).mono ?_; rintro e w5 ⟨v5, n, rfl, hd, hn1, hn8, hg, hs⟩; obtain ⟨n0, rfl⟩ : ∃ n0, n = n0 + 1 := ⟨n - 1, by omega⟩; obtain ⟨ga, ca, gb, cb, gr, cr, vs, zs0, A, Bs, rfl, ht, hz0, hbl⟩ := hd.parts; rw [HSW.out] at ht; have HT5 := Lib.hid (SpT.init ht (HKR.out.srcD hg (by omega)) (gtrans HG0.out hg) hs); have HZ0 := Lib.hid hz0; have HBL := Lib.hid hbl; clear ht hz0 hbl hd hg hs))
  clear HKR HG0 HS0
  obtain ⟨q, hq⟩ : ∃ q, q = w5.heap.size := ⟨_, rfl⟩
  obtain ⟨W6, hW6⟩ : ∃ W6, W6 = w5.alloc (.cells #[.slice (some ⟨ga, 0, none⟩) (n0 + 1) ca, .slice (some ⟨gb, 0, none⟩) (n0 + 1) cb] tTb) := ⟨_, rfl⟩
  rw [← hq, ← hW6] at HT5
  rw [← hW6, ← hq]
  clear hq hW6
  go_upto_region 3 with (go_at_call 127; go_loud (refine (s_l01Next _ B p 40 HT5.out.src (by omega) (by omega)).mono ?_; rintro e w6 ⟨x, rfl, x0, x1, hg, hs⟩; have HT := Lib.hid (HT5.out.draw hpl hg hs); clear hg hs))
  clear HT5
  have hqa : w6.cell? ⟨q, 0, none⟩ = some (.slice (some ⟨ga, 0, none⟩) (n0 + 1) ca) := HT.out.blk.cell 0
  have hqb : w6.cell? ⟨q, 1, none⟩ = some (.slice (some ⟨gb, 0, none⟩) (n0 + 1) cb) := HT.out.blk.cell 1
  have hfa : w6.frozen? ⟨q, 0, none⟩ = false := HT.out.blk.frozen 0
  have hfb : w6.frozen? ⟨q, 1, none⟩ = false := HT.out.blk.frozen 1
  have hqs : w.heap.size + 1 ≤ w6.heap.size := by have h1 := HT.out.ge; have h2 := HT.out.blk.lt; omega
  have HQS := Lib.hid hqs
  clear hqs
  by_cases hx0 : x = 0
  · subst hx0
    go_upto_region 13 with (at_builtin; go_loud (refine wpList_app1 T_int HT.out.two.ws.1 (by rw [ints_len, HBL.out]; omega) HQS.out (by rfl) rfl (by rfl) (by rfl) (by rfl) ?_; intro v7 w7 hown7 hgr7; have hop7 := hown7.cells.open_; (obtain ⟨A7, c7, hv7, -, -⟩ := hop7); have he7 : v7 = .slice A7 (n0 + 1 + 1) c7 := (by rw [List.length_append, ints_len, HBL.out] at hv7; exact hv7); clear hv7; subst he7; have hsp := HT.out.addB hpl (by unfold In64; omega) hown7 hgr7; have HE := Lib.hid hsp.2; have r0 : w7.cell? ⟨q, 1, none⟩ = some (.slice (some ⟨gb, 0, none⟩) (n0 + 1) cb) := hsp.1.cell 1; have r1 : w7.frozen? ⟨q, 1, none⟩ = false := hsp.1.frozen 1; clear hown7 hgr7 hsp))
    clear hqa hqb hfa hfb r0 r1
    obtain ⟨wz, hwz⟩ : ∃ wz, wz = w7.setCell ⟨q, 1, none⟩ (.slice A7 (n0 + 1 + 1) c7) := ⟨_, rfl⟩
    rw [← hwz] at HE ⊢
    clear hwz
    have HDz := HE.out
    have q0 : wz.cell? ⟨q, 0, none⟩ = some (.slice (some ⟨ga, 0, none⟩) (n0 + 1) ca) := HDz.blk.cell 0
    have q1 : wz.cell? ⟨q, 1, none⟩ = some (.slice A7 (n0 + 1 + 1) c7) := HDz.blk.cell 1
    have p0 : wz.cell? ⟨w.heap.size, 0, none⟩ = some (.slice none 0 0) := HDz.res.cell 0
    have p1 : wz.cell? ⟨w.heap.size, 1, none⟩ = some (.slice none 0 0) := HDz.res.cell 1
    have f0 : wz.frozen? ⟨w.heap.size, 0, none⟩ = false := HDz.res.frozen 0
    have f1 : wz.frozen? ⟨w.heap.size, 1, none⟩ = false := HDz.res.frozen 1
    have HBLK := Lib.hid (show Blk ((wz.setCell ⟨w.heap.size, 0, none⟩ (.slice (some ⟨ga, 0, none⟩) (n0 + 1) ca)).setCell ⟨w.heap.size, 1, none⟩ (.slice A7 (n0 + 1 + 1) c7)) w.heap.size tTb #[.slice (some ⟨ga, 0, none⟩) (n0 + 1) ca, .slice A7 (n0 + 1 + 1) c7] from by have h := (HDz.res.set_ 0 (.slice (some ⟨ga, 0, none⟩) (n0 + 1) ca)).set_ 1 (.slice A7 (n0 + 1 + 1) c7); simpa using h)
    obtain ⟨hfin, hgf, hsf⟩ := HDz.fin hpl
    have HF := Lib.hid hfin
    have HGF := Lib.hid hgf
    have HSF := Lib.hid hsf
    clear hfin hgf hsf HDz
    go_wp2_with fail
    have g0 := HBLK.out.cell 0
    have g1 := HBLK.out.cell 1
    simp only [List.getElem?_toArray, List.getElem?_cons_zero, List.getElem?_cons_succ] at g0 g1
    exact bodyPost_ret (v := .agg #[.slice (some ⟨ga, 0, none⟩) (n0 + 1) ca, .slice A7 (n0 + 1 + 1) c7]) (by simp [results, Tryz.results90, go_sem, g0, g1]) rfl ⟨_, rfl, HF.out, HGF.out, HSF.out⟩

  · by_cases hx1 : x = 1
    · subst hx1
      have hca : w6.cell? ⟨ga, 0, none⟩ = some (.slice (some ⟨gr, 0, none⟩) (n0 + 1) cr) := HT.out.rowCell
      have hca2 : ∀ o, (w6.alloc o).cell? ⟨ga, 0, none⟩ = some (.slice (some ⟨gr, 0, none⟩) (n0 + 1) cr) := fun o => (HT.out.below hpl (below1 w6 o)).rowCell
      have hqa2 : ∀ o, (w6.alloc o).cell? ⟨q, 0, none⟩ = some (.slice (some ⟨ga, 0, none⟩) (n0 + 1) ca) := fun o => (HT.out.below hpl (below1 w6 o)).blk.cell 0
      have hbd : Below w6.heap.size w6 w6.drew := (Below.refl _ _).drew
      have HTd := Lib.hid (HT.out.below hpl hbd)
      go_upto_region 6 with fail
      go_region_law (go_loud (refine step_app1 T_int (B := w.heap.size + 1) (W := w6.drew) (v := .slice (some ⟨gr, 0, none⟩) (n0 + 1) cr) (vs := ints zs0) (u := .int .i64 1) (HTd.out.two.rows.2.1 0 _ zs0 rfl rfl).1.1 (by rw [ints_len, HZ0.out]; omega) HQS.out (by rfl) rfl (by rfl) (by rfl) (by rfl) ?_; intro v7 w7 hown7 hgr7; have hop7 := hown7.cells.open_; (obtain ⟨A7, c7, hv7, -, -⟩ := hop7); have he7 : v7 = .slice A7 (n0 + 1 + 1) c7 := (by rw [List.length_append, ints_len, HZ0.out] at hv7; exact hv7); clear hv7; subst he7; obtain ⟨⟨u7, r0⟩, r1, r2, hsp⟩ := HTd.out.row0 hpl (by unfold In64; omega) hown7 hgr7; have HE := Lib.hid hsp; have r3 : w7.cell? ⟨q, 0, none⟩ = some (.slice (some ⟨ga, 0, none⟩) (n0 + 1) ca) := r2.cell 0; clear hown7 hgr7 hsp r2))
      all_goals
        go_upto_region 13 with fail
        clear hqa hqb hfa hfb hca hca2 hqa2 r0 r1 r3
        obtain ⟨wz, hwz⟩ : ∃ wz, wz = w7.setCell ⟨ga, 0, none⟩ (.slice A7 (n0 + 1 + 1) c7) := ⟨_, rfl⟩
        rw [← hwz] at HE ⊢
        clear hwz
        have HDz := HE.out
        have q0 : wz.cell? ⟨q, 0, none⟩ = some (.slice (some ⟨ga, 0, none⟩) (n0 + 1) ca) := HDz.blk.cell 0
        have q1 : wz.cell? ⟨q, 1, none⟩ = some (.slice (some ⟨gb, 0, none⟩) (n0 + 1) cb) := HDz.blk.cell 1
        have p0 : wz.cell? ⟨w.heap.size, 0, none⟩ = some (.slice none 0 0) := HDz.res.cell 0
        have p1 : wz.cell? ⟨w.heap.size, 1, none⟩ = some (.slice none 0 0) := HDz.res.cell 1
        have f0 : wz.frozen? ⟨w.heap.size, 0, none⟩ = false := HDz.res.frozen 0
        have f1 : wz.frozen? ⟨w.heap.size, 1, none⟩ = false := HDz.res.frozen 1
        have HBLK := Lib.hid (show Blk ((wz.setCell ⟨w.heap.size, 0, none⟩ (.slice (some ⟨ga, 0, none⟩) (n0 + 1) ca)).setCell ⟨w.heap.size, 1, none⟩ (.slice (some ⟨gb, 0, none⟩) (n0 + 1) cb)) w.heap.size tTb #[.slice (some ⟨ga, 0, none⟩) (n0 + 1) ca, .slice (some ⟨gb, 0, none⟩) (n0 + 1) cb] from by have h := (HDz.res.set_ 0 (.slice (some ⟨ga, 0, none⟩) (n0 + 1) ca)).set_ 1 (.slice (some ⟨gb, 0, none⟩) (n0 + 1) cb); simpa using h)
        obtain ⟨hfin, hgf, hsf⟩ := HDz.fin hpl
        have HF := Lib.hid hfin
        have HGF := Lib.hid hgf
        have HSF := Lib.hid hsf
        clear hfin hgf hsf HDz
        go_wp2_with fail
        have g0 := HBLK.out.cell 0
        have g1 := HBLK.out.cell 1
        simp only [List.getElem?_toArray, List.getElem?_cons_zero, List.getElem?_cons_succ] at g0 g1
        exact bodyPost_ret (v := .agg #[.slice (some ⟨ga, 0, none⟩) (n0 + 1) ca, .slice (some ⟨gb, 0, none⟩) (n0 + 1) cb]) (by simp [results, Tryz.results90, go_sem, g0, g1]) rfl ⟨_, rfl, HF.out, HGF.out, HSF.out⟩

    · by_cases hx2 : x = 2
      · subst hx2
        have hca : w6.cell? ⟨ga, 0, none⟩ = some (.slice (some ⟨gr, 0, none⟩) (n0 + 1) cr) := HT.out.rowCell
        have hca2 : ∀ o, (w6.alloc o).cell? ⟨ga, 0, none⟩ = some (.slice (some ⟨gr, 0, none⟩) (n0 + 1) cr) := fun o => (HT.out.below hpl (below1 w6 o)).rowCell
        have hqa2 : ∀ o, (w6.alloc o).cell? ⟨q, 0, none⟩ = some (.slice (some ⟨ga, 0, none⟩) (n0 + 1) ca) := fun o => (HT.out.below hpl (below1 w6 o)).blk.cell 0
        have hbd : Below w6.heap.size w6 (w6.drew.alloc (.cells #[.int .i64 (-1), .int .i64 10007] tI)) := ((Below.refl _ _).drew).alloc (Nat.le_refl _) _
        have HTd := Lib.hid (HT.out.below hpl hbd)
        have HLI := Lib.hid (show ∀ X, (w6.drew.alloc (.cells #[.int .i64 (-1), .int .i64 10007] tI)).grownBy X (some p) → Ints X (.slice (some ⟨w6.heap.size, 0, none⟩) 2 2) [-1, 10007] from lit_keep w6.drew p [-1, 10007] (by intro z hz; simp at hz; unfold In64; omega) (by simp) (by have h1 := HQS.out; show p < w6.heap.size; omega))
        go_upto_region 8 with fail
        go_region_law (go_simp; go_at_call 142; (with_reducible refine (s_l01Pick _ B p _ [-1, 10007] ?_ ?_ ?_ ?_).mono ?_); (exact HTd.out.src); (exact HLI.out); (simp); (simp); go_loud (rintro e w7 ⟨z, rfl, hzm, hg, hs⟩; have hz64 : In64 z := (by simp at hzm; unfold In64; omega); have HT7 := Lib.hid (HTd.out.draw hpl hg hs); obtain ⟨⟨u7, r0⟩, r1, hsp⟩ := HT7.out.cell0 hpl hz64 (by rw [HZ0.out]; omega); have HE := Lib.hid hsp; have r3 : w7.cell? ⟨q, 0, none⟩ = some (.slice (some ⟨ga, 0, none⟩) (n0 + 1) ca) := HT7.out.blk.cell 0; have r4 : w7.cell? ⟨ga, 0, none⟩ = some (.slice (some ⟨gr, 0, none⟩) (n0 + 1) cr) := HT7.out.rowCell; clear hg hs hsp hzm hz64))
        all_goals
          go_upto_region 13 with fail
          clear hqa hqb hfa hfb hca hca2 hqa2 r0 r1 r3 r4
          obtain ⟨wz, hwz⟩ : ∃ wz, wz = w7.setCell ⟨gr, 0, none⟩ (.int .i64 z) := ⟨_, rfl⟩
          rw [← hwz] at HE ⊢
          clear hwz
          have HDz := HE.out
          have q0 : wz.cell? ⟨q, 0, none⟩ = some (.slice (some ⟨ga, 0, none⟩) (n0 + 1) ca) := HDz.blk.cell 0
          have q1 : wz.cell? ⟨q, 1, none⟩ = some (.slice (some ⟨gb, 0, none⟩) (n0 + 1) cb) := HDz.blk.cell 1
          have p0 : wz.cell? ⟨w.heap.size, 0, none⟩ = some (.slice none 0 0) := HDz.res.cell 0
          have p1 : wz.cell? ⟨w.heap.size, 1, none⟩ = some (.slice none 0 0) := HDz.res.cell 1
          have f0 : wz.frozen? ⟨w.heap.size, 0, none⟩ = false := HDz.res.frozen 0
          have f1 : wz.frozen? ⟨w.heap.size, 1, none⟩ = false := HDz.res.frozen 1
          have HBLK := Lib.hid (show Blk ((wz.setCell ⟨w.heap.size, 0, none⟩ (.slice (some ⟨ga, 0, none⟩) (n0 + 1) ca)).setCell ⟨w.heap.size, 1, none⟩ (.slice (some ⟨gb, 0, none⟩) (n0 + 1) cb)) w.heap.size tTb #[.slice (some ⟨ga, 0, none⟩) (n0 + 1) ca, .slice (some ⟨gb, 0, none⟩) (n0 + 1) cb] from by have h := (HDz.res.set_ 0 (.slice (some ⟨ga, 0, none⟩) (n0 + 1) ca)).set_ 1 (.slice (some ⟨gb, 0, none⟩) (n0 + 1) cb); simpa using h)
          obtain ⟨hfin, hgf, hsf⟩ := HDz.fin hpl
          have HF := Lib.hid hfin
          have HGF := Lib.hid hgf
          have HSF := Lib.hid hsf
          clear hfin hgf hsf HDz
          go_wp2_with fail
          have g0 := HBLK.out.cell 0
          have g1 := HBLK.out.cell 1
          simp only [List.getElem?_toArray, List.getElem?_cons_zero, List.getElem?_cons_succ] at g0 g1
          exact bodyPost_ret (v := .agg #[.slice (some ⟨ga, 0, none⟩) (n0 + 1) ca, .slice (some ⟨gb, 0, none⟩) (n0 + 1) cb]) (by simp [results, Tryz.results90, go_sem, g0, g1]) rfl ⟨_, rfl, HF.out, HGF.out, HSF.out⟩

      · by_cases hx3 : x = 3
        · subst hx3
          go_upto_region 13 with fail
          have HE := Lib.hid (HT.out.nil0 hpl)
          clear hqa hqb hfa hfb
          obtain ⟨wz, hwz⟩ : ∃ wz, wz = (w6.setCell ⟨q, 0, none⟩ (.slice none 0 0)).setCell ⟨q, 1, none⟩ (.slice none 0 0) := ⟨_, rfl⟩
          rw [← hwz] at HE ⊢
          clear hwz
          have HDz := HE.out
          have q0 : wz.cell? ⟨q, 0, none⟩ = some (.slice none 0 0) := HDz.blk.cell 0
          have q1 : wz.cell? ⟨q, 1, none⟩ = some (.slice none 0 0) := HDz.blk.cell 1
          have p0 : wz.cell? ⟨w.heap.size, 0, none⟩ = some (.slice none 0 0) := HDz.res.cell 0
          have p1 : wz.cell? ⟨w.heap.size, 1, none⟩ = some (.slice none 0 0) := HDz.res.cell 1
          have f0 : wz.frozen? ⟨w.heap.size, 0, none⟩ = false := HDz.res.frozen 0
          have f1 : wz.frozen? ⟨w.heap.size, 1, none⟩ = false := HDz.res.frozen 1
          have HBLK := Lib.hid (show Blk ((wz.setCell ⟨w.heap.size, 0, none⟩ (.slice none 0 0)).setCell ⟨w.heap.size, 1, none⟩ (.slice none 0 0)) w.heap.size tTb #[.slice none 0 0, .slice none 0 0] from by have h := (HDz.res.set_ 0 (.slice none 0 0)).set_ 1 (.slice none 0 0); simpa using h)
          obtain ⟨hfin, hgf, hsf⟩ := HDz.fin hpl
          have HF := Lib.hid hfin
          have HGF := Lib.hid hgf
          have HSF := Lib.hid hsf
          clear hfin hgf hsf HDz
          go_wp2_with fail
          have g0 := HBLK.out.cell 0
          have g1 := HBLK.out.cell 1
          simp only [List.getElem?_toArray, List.getElem?_cons_zero, List.getElem?_cons_succ] at g0 g1
          exact bodyPost_ret (v := .agg #[.slice none 0 0, .slice none 0 0]) (by simp [results, Tryz.results90, go_sem, g0, g1]) rfl ⟨_, rfl, HF.out, HGF.out, HSF.out⟩

        · by_cases hx4 : x = 4
          · subst hx4
            go_upto_region 13 with fail
            have HE := Lib.hid (HT.out.tail hpl)
            clear hqa hqb hfa hfb
            obtain ⟨A2, hA2⟩ : ∃ A2 : Option Addr, A2 = if ca = 1 then some ⟨ga, 0, none⟩ else some ⟨ga, 1, none⟩ := ⟨_, rfl⟩
            rw [← hA2] at HE ⊢
            clear hA2
            obtain ⟨wz, hwz⟩ : ∃ wz, wz = w6.setCell ⟨q, 0, none⟩ (.slice A2 n0 (ca - 1)) := ⟨_, rfl⟩
            rw [← hwz] at HE ⊢
            clear hwz
            have HDz := HE.out
            have q0 : wz.cell? ⟨q, 0, none⟩ = some (.slice A2 n0 (ca - 1)) := HDz.blk.cell 0
            have q1 : wz.cell? ⟨q, 1, none⟩ = some (.slice (some ⟨gb, 0, none⟩) (n0 + 1) cb) := HDz.blk.cell 1
            have p0 : wz.cell? ⟨w.heap.size, 0, none⟩ = some (.slice none 0 0) := HDz.res.cell 0
            have p1 : wz.cell? ⟨w.heap.size, 1, none⟩ = some (.slice none 0 0) := HDz.res.cell 1
            have f0 : wz.frozen? ⟨w.heap.size, 0, none⟩ = false := HDz.res.frozen 0
            have f1 : wz.frozen? ⟨w.heap.size, 1, none⟩ = false := HDz.res.frozen 1
            have HBLK := Lib.hid (show Blk ((wz.setCell ⟨w.heap.size, 0, none⟩ (.slice A2 n0 (ca - 1))).setCell ⟨w.heap.size, 1, none⟩ (.slice (some ⟨gb, 0, none⟩) (n0 + 1) cb)) w.heap.size tTb #[.slice A2 n0 (ca - 1), .slice (some ⟨gb, 0, none⟩) (n0 + 1) cb] from by have h := (HDz.res.set_ 0 (.slice A2 n0 (ca - 1))).set_ 1 (.slice (some ⟨gb, 0, none⟩) (n0 + 1) cb); simpa using h)
            obtain ⟨hfin, hgf, hsf⟩ := HDz.fin hpl
            have HF := Lib.hid hfin
            have HGF := Lib.hid hgf
            have HSF := Lib.hid hsf
            clear hfin hgf hsf HDz
            go_wp2_with fail
            have g0 := HBLK.out.cell 0
            have g1 := HBLK.out.cell 1
            simp only [List.getElem?_toArray, List.getElem?_cons_zero, List.getElem?_cons_succ] at g0 g1
            exact bodyPost_ret (v := .agg #[.slice A2 n0 (ca - 1), .slice (some ⟨gb, 0, none⟩) (n0 + 1) cb]) (by simp [results, Tryz.results90, go_sem, g0, g1]) rfl ⟨_, rfl, HF.out, HGF.out, HSF.out⟩

          · go_upto_region 13 with fail
            have HE := Lib.hid HT.out.toS
            clear hqa hqb hfa hfb
            obtain ⟨wz, hwz⟩ : ∃ wz, wz = w6 := ⟨_, rfl⟩
            rw [← hwz] at HE ⊢
            clear hwz
            have HDz := HE.out
            have q0 : wz.cell? ⟨q, 0, none⟩ = some (.slice (some ⟨ga, 0, none⟩) (n0 + 1) ca) := HDz.blk.cell 0
            have q1 : wz.cell? ⟨q, 1, none⟩ = some (.slice (some ⟨gb, 0, none⟩) (n0 + 1) cb) := HDz.blk.cell 1
            have p0 : wz.cell? ⟨w.heap.size, 0, none⟩ = some (.slice none 0 0) := HDz.res.cell 0
            have p1 : wz.cell? ⟨w.heap.size, 1, none⟩ = some (.slice none 0 0) := HDz.res.cell 1
            have f0 : wz.frozen? ⟨w.heap.size, 0, none⟩ = false := HDz.res.frozen 0
            have f1 : wz.frozen? ⟨w.heap.size, 1, none⟩ = false := HDz.res.frozen 1
            have HBLK := Lib.hid (show Blk ((wz.setCell ⟨w.heap.size, 0, none⟩ (.slice (some ⟨ga, 0, none⟩) (n0 + 1) ca)).setCell ⟨w.heap.size, 1, none⟩ (.slice (some ⟨gb, 0, none⟩) (n0 + 1) cb)) w.heap.size tTb #[.slice (some ⟨ga, 0, none⟩) (n0 + 1) ca, .slice (some ⟨gb, 0, none⟩) (n0 + 1) cb] from by have h := (HDz.res.set_ 0 (.slice (some ⟨ga, 0, none⟩) (n0 + 1) ca)).set_ 1 (.slice (some ⟨gb, 0, none⟩) (n0 + 1) cb); simpa using h)
            obtain ⟨hfin, hgf, hsf⟩ := HDz.fin hpl
            have HF := Lib.hid hfin
            have HGF := Lib.hid hgf
            have HSF := Lib.hid hsf
            clear hfin hgf hsf HDz
            go_wp2_with fail
            have g0 := HBLK.out.cell 0
            have g1 := HBLK.out.cell 1
            simp only [List.getElem?_toArray, List.getElem?_cons_zero, List.getElem?_cons_succ] at g0 g1
            exact bodyPost_ret (v := .agg #[.slice (some ⟨ga, 0, none⟩) (n0 + 1) ca, .slice (some ⟨gb, 0, none⟩) (n0 + 1) cb]) (by simp [results, Tryz.results90, go_sem, g0, g1]) rfl ⟨_, rfl, HF.out, HGF.out, HSF.out⟩

end Go.Proofs.YtnlaoainhlfemaaGreat

set_option maxRecDepth 100000
set_option linter.unusedVariables false
set_option linter.unusedSimpArgs false
namespace Go.Proofs.YtnlaoainhlfemaaGreat
open Go.RowKit

theorem chgOf {w w' : World} {p N : Nat} (h : w.grownBy w' (some p)) (hp : p < N) : Chg 0 N w w' := ⟨h.os, h.tape, h.output, h.size, fun k hk hd => h.block k hk (by intro e; injection e with e; omega)⟩
theorem ByB.belowS {w w' : World} {B n : Nat} {A : Option Addr} (h : ByB w B A n) (hB : B ≤ w.heap.size) (hb : Below B w w') : ByB w' B A n := fun k hk => by
  obtain ⟨ad, z, rfl, h1, h2, h3, h4, h5⟩ := h k hk
  exact ⟨ad, z, rfl, h1, Nat.lt_of_lt_of_le h2 hb.size, h3, h4, by rw [hb.cell (by rw [block_add]; exact h1)]; exact h5⟩
theorem ByB.monoS {w : World} {B B' n : Nat} {A : Option Addr} (h : ByB w B A n) (hB : B ≤ B') : ByB w B' A n := fun k hk => by
  obtain ⟨ad, z, rfl, h1, h2⟩ := h k hk
  exact ⟨ad, z, rfl, Nat.lt_of_lt_of_le h1 hB, h2⟩
end Go.Proofs.YtnlaoainhlfemaaGreat

set_option maxRecDepth 100000
set_option linter.unusedVariables false
set_option linter.unusedSimpArgs false
namespace Go.Proofs.YtnlaoainhlfemaaGreat
open Go.RowKit

/-- two results in cells, stored one behind the other -/
theorem twoRes {W : World} {a b c d u0 u1 v0 v1 : Value} {p : Nat} (h1 : Blk W p tTb #[u0, u1]) (h2 : Blk W (p + 1) tTb #[v0, v1]) :
    Blk ((((W.setCell ⟨p, 0, none⟩ a).setCell ⟨p, 1, none⟩ b).setCell ⟨p + 1, 0, none⟩ c).setCell ⟨p + 1, 1, none⟩ d) p tTb #[a, b] ∧
    Blk ((((W.setCell ⟨p, 0, none⟩ a).setCell ⟨p, 1, none⟩ b).setCell ⟨p + 1, 0, none⟩ c).setCell ⟨p + 1, 1, none⟩ d) (p + 1) tTb #[c, d] ∧
    Blk ((((W.setCell ⟨p + 1, 0, none⟩ c).setCell ⟨p + 1, 1, none⟩ d).setCell ⟨p, 0, none⟩ a).setCell ⟨p, 1, none⟩ b) p tTb #[a, b] ∧
    Blk ((((W.setCell ⟨p + 1, 0, none⟩ c).setCell ⟨p + 1, 1, none⟩ d).setCell ⟨p, 0, none⟩ a).setCell ⟨p, 1, none⟩ b) (p + 1) tTb #[c, d] := by
  have e1 := (h1.set_ 0 a).set_ 1 b
  have e2 := (h2.far (p := ⟨p, 0, none⟩) (by simp) a).far (p := ⟨p, 1, none⟩) (by simp) b
  have e3 := (h2.set_ 0 c).set_ 1 d
  have e4 := (h1.far (p := ⟨p + 1, 0, none⟩) (by simp) c).far (p := ⟨p + 1, 1, none⟩) (by simp) d
  have f1 := (e1.far (p := ⟨p + 1, 0, none⟩) (by simp) c).far (p := ⟨p + 1, 1, none⟩) (by simp) d
  have f2 := (e2.set_ 0 c).set_ 1 d
  have f3 := (e3.far (p := ⟨p, 0, none⟩) (by simp) a).far (p := ⟨p, 1, none⟩) (by simp) b
  have f4 := (e4.set_ 0 a).set_ 1 b
  exact ⟨by simpa using f1, by simpa using f2, by simpa using f4, by simpa using f3⟩
theorem chgTwo {W : World} {p N : Nat} (hN : p + 1 < N) (a b c d : Value) :
    Chg 0 N W ((((W.setCell ⟨p, 0, none⟩ a).setCell ⟨p, 1, none⟩ b).setCell ⟨p + 1, 0, none⟩ c).setCell ⟨p + 1, 1, none⟩ d) ∧
    Chg 0 N W ((((W.setCell ⟨p + 1, 0, none⟩ c).setCell ⟨p + 1, 1, none⟩ d).setCell ⟨p, 0, none⟩ a).setCell ⟨p, 1, none⟩ b) := by
  have hp : ∀ k, (⟨p, k, none⟩ : Addr).block < N := fun k => by show p < N; omega
  have hq : ∀ k, (⟨p + 1, k, none⟩ : Addr).block < N := fun k => hN
  exact ⟨((((Chg.refl 0 N W).setCell (Nat.zero_le _) (hp 0) a).setCell (Nat.zero_le _) (hp 1) b).setCell (Nat.zero_le _) (hq 0) c).setCell (Nat.zero_le _) (hq 1) d,
    ((((Chg.refl 0 N W).setCell (Nat.zero_le _) (hq 0) c).setCell (Nat.zero_le _) (hq 1) d).setCell (Nat.zero_le _) (hp 0) a).setCell (Nat.zero_le _) (hp 1) b⟩
set_option maxHeartbeats 8000000 in
theorem s_DrawComposeTableaus (w : World) (A : Option Addr) (N c : Nat) (hb : ByB w w.heap.size A N) (hN : N ≤ 4096) :
    Calls Tryz.prog 36 #[.slice A N c] w fun e w' => ∃ v u, e = .returned (.tuple #[v, u]) ∧ (∃ X Bs, TabArg w' v X Bs) ∧ (∃ Y Cs, TabArg w' u Y Cs) ∧ Below w.heap.size w w' := by
  obtain ⟨W, hW⟩ : ∃ W, W = (w.alloc (.cells #[.slice none 0 0, .slice none 0 0] tTb)).alloc (.cells #[.slice none 0 0, .slice none 0 0] tTb) := ⟨_, rfl⟩
  have HSW := Lib.hid (show W.heap.size = w.heap.size + 1 + 1 from by rw [hW]; simp)
  have HBW := Lib.hid (show Below w.heap.size w W from by rw [hW]; exact below2 w _ _)
  have HK0 := Lib.hid (show Blk W w.heap.size tTb #[.slice none 0 0, .slice none 0 0] from by rw [hW]; exact (Blk.new _ _ _).alloc _)
  have HK1 := Lib.hid (show Blk W (w.heap.size + 1) tTb #[.slice none 0 0, .slice none 0 0] from by rw [hW]; exact Blk.new1 _ _ _ _)
  have HFR := Lib.hid (s_l01From W A N c ((hb.belowS (Nat.le_refl _) HBW.out).monoS HBW.out.size) hN)
  clear hb
  go_enter Tryz.func36, Tryz.ntmps36
  go_upto_region 1 with fail
  rw [← hW]
  clear hW
  go_upto_region 2 with (go_at_call 76; go_loud (refine HFR.out.mono ?_; rintro e w1 ⟨p, rfl, hs1, hb1⟩; have HS1 := Lib.hid hs1; have HB1 := Lib.hid (HBW.out.trans (hb1.mono HBW.out.size)); have HL0 := Lib.hid (HK0.out.below hb1 HK0.out.lt); have HL1 := Lib.hid (HK1.out.below hb1 HK1.out.lt); have hpg := hs1.ge; have hpl := hs1.lt; clear hs1 hb1))
  have HPW := Lib.hid (show w.heap.size + 1 < p from by have := HSW.out; omega)
  clear HFR HK0 HK1 hpg
  go_upto_region 3 with (go_at_call 90; go_loud (refine (s_l09Spoil w1 W.heap.size p 5 HS1.out (by omega) (by omega)).mono ?_; rintro e w2 ⟨v, rfl, ⟨X, Bs, hst⟩, hg, hs⟩; obtain ⟨Aa, ca, Ab, cb, rfl⟩ := hst.arg.open_; have HST := Lib.hid hst; have HG2 := Lib.hid hg; have HS2 := Lib.hid hs; clear hst hg hs))
  obtain ⟨q, hq⟩ : ∃ q, q = w2.heap.size := ⟨_, rfl⟩
  obtain ⟨W2, hW2⟩ : ∃ W2, W2 = w2.alloc (.cells #[.slice Aa X.length ca, .slice Ab Bs.length cb] tTb) := ⟨_, rfl⟩
  have hbe : Below w2.heap.size w2 W2 := by rw [hW2]; exact below1 _ _
  have HT1 := Lib.hid (HST.out.step (Chg.of_below hbe _ _))
  have HG := Lib.hid (gtrans HG2.out (gof hbe))
  have HS3 := Lib.hid (HS2.out.below hbe)
  have HKq := Lib.hid (show Blk W2 q tTb #[.slice Aa X.length ca, .slice Ab Bs.length cb] from by rw [hW2, hq]; exact Blk.new _ _ _)
  have HQ := Lib.hid (show p < q from by have := HG2.out.size; omega)
  rw [← hW2, ← hq]
  clear hW2 hq hbe HST HG2 HS2
  go_upto_region 4 with (go_at_call 90; go_loud (refine (s_l09Spoil W2 W.heap.size p 4 HS3.out (by omega) (by omega)).mono ?_; rintro e w3 ⟨v, rfl, ⟨Y, Cs, hst⟩, hg, hs⟩; obtain ⟨Ca, da, Cb, db, rfl⟩ := hst.arg.open_; have HST := Lib.hid hst; have HG3 := Lib.hid (gtrans HG.out hg); have HT2 := Lib.hid (HT1.out.step (chgOf hg hpl)); have HKr := Lib.hid (HKq.out.srcD hg (by have := HQ.out; omega)); clear hst hg hs))
  obtain ⟨q2, hq2⟩ : ∃ q2, q2 = w3.heap.size := ⟨_, rfl⟩
  obtain ⟨W3, hW3⟩ : ∃ W3, W3 = w3.alloc (.cells #[.slice Ca Y.length da, .slice Cb Cs.length db] tTb) := ⟨_, rfl⟩
  have hbe : Below w3.heap.size w3 W3 := by rw [hW3]; exact below1 _ _
  have HT3 := Lib.hid (HT2.out.step (Chg.of_below hbe _ _))
  have HU3 := Lib.hid (HST.out.step (Chg.of_below hbe _ _))
  have HG4 := Lib.hid (gtrans HG3.out (gof hbe))
  have HKq3 := Lib.hid (HKr.out.below hbe HKr.out.lt)
  have HKu := Lib.hid (show Blk W3 q2 tTb #[.slice Ca Y.length da, .slice Cb Cs.length db] from by rw [hW3, hq2]; exact Blk.new _ _ _)
  have HQ1 := Lib.hid (show w.heap.size + 1 < q from by have := HQ.out; have := HPW.out; omega)
  have HQ2 := Lib.hid (show w.heap.size + 1 < q2 from by have := HG3.out.size; have := HPW.out; omega)
  rw [← hW3, ← hq2]
  have HR0 := Lib.hid (HL0.out.srcD HG4.out (by have := HPW.out; omega))
  have HR1 := Lib.hid (HL1.out.srcD HG4.out (by have := HPW.out; omega))
  have hws : w1.heap.size ≤ W2.heap.size := HG.out.size
  have HWS := Lib.hid (show w.heap.size + 1 < W2.heap.size from by have := HPW.out; omega)
  have HW1 := Lib.hid (show w.heap.size + 1 < w1.heap.size from by have := HPW.out; omega)
  have HB := Lib.hid (HB1.out.grown HG4.out (by have := HPW.out; omega) (fun b e => by injection e with e; have := HPW.out; omega))
  clear hW3 hq2 hbe hws HT1 HT2 HST HG HG3 HKq HKr HL0 HL1 HS3 HS1 HQ HSW hpl
  have a0 : W3.cell? ⟨q, 0, none⟩ = some (.slice Aa X.length ca) := HKq3.out.cell 0
  have a1 : W3.cell? ⟨q, 1, none⟩ = some (.slice Ab Bs.length cb) := HKq3.out.cell 1
  have b0 : W3.cell? ⟨q2, 0, none⟩ = some (.slice Ca Y.length da) := HKu.out.cell 0
  have b1 : W3.cell? ⟨q2, 1, none⟩ = some (.slice Cb Cs.length db) := HKu.out.cell 1
  have r0 : W3.cell? ⟨w.heap.size, 0, none⟩ = some (.slice none 0 0) := HR0.out.cell 0
  have r1 : W3.cell? ⟨w.heap.size, 1, none⟩ = some (.slice none 0 0) := HR0.out.cell 1
  have r2 := HR0.out.frozen 0
  have r3 := HR0.out.frozen 1
  have s0 : W3.cell? ⟨w.heap.size + 1, 0, none⟩ = some (.slice none 0 0) := HR1.out.cell 0
  have s1 : W3.cell? ⟨w.heap.size + 1, 1, none⟩ = some (.slice none 0 0) := HR1.out.cell 1
  have s2 := HR1.out.frozen 0
  have s3 := HR1.out.frozen 1
  have z1 : ∀ k a, (W3.setCell ⟨w.heap.size, k, none⟩ a).cell? ⟨q2, 0, none⟩ = some (.slice Ca Y.length da) := fun k a => (HKu.out.far (p := ⟨w.heap.size, k, none⟩) (by have := HQ2.out; simp; omega) a).cell 0
  have z2 : ∀ k a, (W3.setCell ⟨w.heap.size, k, none⟩ a).cell? ⟨q2, 1, none⟩ = some (.slice Cb Cs.length db) := fun k a => (HKu.out.far (p := ⟨w.heap.size, k, none⟩) (by have := HQ2.out; simp; omega) a).cell 1
  have z3 : ∀ k a, (W3.setCell ⟨w.heap.size + 1, k, none⟩ a).cell? ⟨q, 0, none⟩ = some (.slice Aa X.length ca) := fun k a => (HKq3.out.far (p := ⟨w.heap.size + 1, k, none⟩) (by have := HQ1.out; simp; omega) a).cell 0
  have z4 : ∀ k a, (W3.setCell ⟨w.heap.size + 1, k, none⟩ a).cell? ⟨q, 1, none⟩ = some (.slice Ab Bs.length cb) := fun k a => (HKq3.out.far (p := ⟨w.heap.size + 1, k, none⟩) (by have := HQ1.out; simp; omega) a).cell 1
  have z5 : ∀ a b, ((W3.setCell ⟨w.heap.size, 0, none⟩ a).setCell ⟨w.heap.size, 1, none⟩ b).cell? ⟨q2, 0, none⟩ = some (.slice Ca Y.length da) := fun a b => ((HKu.out.far (p := ⟨w.heap.size, 0, none⟩) (by have := HQ2.out; simp; omega) a).far (p := ⟨w.heap.size, 1, none⟩) (by have := HQ2.out; simp; omega) b).cell 0
  have z6 : ∀ a b, ((W3.setCell ⟨w.heap.size, 0, none⟩ a).setCell ⟨w.heap.size, 1, none⟩ b).cell? ⟨q2, 1, none⟩ = some (.slice Cb Cs.length db) := fun a b => ((HKu.out.far (p := ⟨w.heap.size, 0, none⟩) (by have := HQ2.out; simp; omega) a).far (p := ⟨w.heap.size, 1, none⟩) (by have := HQ2.out; simp; omega) b).cell 1
  have z7 : ∀ a b, ((W3.setCell ⟨w.heap.size + 1, 0, none⟩ a).setCell ⟨w.heap.size + 1, 1, none⟩ b).cell? ⟨q, 0, none⟩ = some (.slice Aa X.length ca) := fun a b => ((HKq3.out.far (p := ⟨w.heap.size + 1, 0, none⟩) (by have := HQ1.out; simp; omega) a).far (p := ⟨w.heap.size + 1, 1, none⟩) (by have := HQ1.out; simp; omega) b).cell 0
  have z8 : ∀ a b, ((W3.setCell ⟨w.heap.size + 1, 0, none⟩ a).setCell ⟨w.heap.size + 1, 1, none⟩ b).cell? ⟨q, 1, none⟩ = some (.slice Ab Bs.length cb) := fun a b => ((HKq3.out.far (p := ⟨w.heap.size + 1, 0, none⟩) (by have := HQ1.out; simp; omega) a).far (p := ⟨w.heap.size + 1, 1, none⟩) (by have := HQ1.out; simp; omega) b).cell 1
  obtain ⟨k1, k2, k3, k4⟩ := twoRes (a := .slice Aa X.length ca) (b := .slice Ab Bs.length cb) (c := .slice Ca Y.length da) (d := .slice Cb Cs.length db) HR0.out HR1.out
  obtain ⟨t1, t2⟩ := chgTwo (W := W3) HW1.out (.slice Aa X.length ca) (.slice Ab Bs.length cb) (.slice Ca Y.length da) (.slice Cb Cs.length db)
  obtain ⟨t3, t4⟩ := chgTwo (W := W3) HWS.out (.slice Aa X.length ca) (.slice Ab Bs.length cb) (.slice Ca Y.length da) (.slice Cb Cs.length db)
  have HE1 := Lib.hid (HT3.out.step t1).arg
  have HE2 := Lib.hid (HT3.out.step t2).arg
  have HE3 := Lib.hid (HU3.out.step t3).arg
  have HE4 := Lib.hid (HU3.out.step t4).arg
  have HZ1 := Lib.hid k1
  have HZ2 := Lib.hid k2
  have HZ3 := Lib.hid k3
  have HZ4 := Lib.hid k4
  have HL5 := Lib.hid ((((HB.out.setCell (p := ⟨w.heap.size, 0, none⟩) (Nat.le_refl _) (.slice Aa X.length ca)).setCell (p := ⟨w.heap.size, 1, none⟩) (Nat.le_refl _) (.slice Ab Bs.length cb)).setCell (p := ⟨w.heap.size + 1, 0, none⟩) (Nat.le_succ _) (.slice Ca Y.length da)).setCell (p := ⟨w.heap.size + 1, 1, none⟩) (Nat.le_succ _) (.slice Cb Cs.length db))
  have HL6 := Lib.hid ((((HB.out.setCell (p := ⟨w.heap.size + 1, 0, none⟩) (Nat.le_succ _) (.slice Ca Y.length da)).setCell (p := ⟨w.heap.size + 1, 1, none⟩) (Nat.le_succ _) (.slice Cb Cs.length db)).setCell (p := ⟨w.heap.size, 0, none⟩) (Nat.le_refl _) (.slice Aa X.length ca)).setCell (p := ⟨w.heap.size, 1, none⟩) (Nat.le_refl _) (.slice Ab Bs.length cb))
  clear k1 k2 k3 k4 t1 t2 t3 t4
  go_region
  all_goals
    go_wp2_with fail
    obtain ⟨V, hV⟩ : ∃ V, V = (((W3.setCell ⟨w.heap.size, 0, none⟩ (.slice Aa X.length ca)).setCell ⟨w.heap.size, 1, none⟩ (.slice Ab Bs.length cb)).setCell ⟨w.heap.size + 1, 0, none⟩ (.slice Ca Y.length da)).setCell ⟨w.heap.size + 1, 1, none⟩ (.slice Cb Cs.length db) := ⟨_, rfl⟩
    rw [← hV] at HZ1 HZ2 HE1 HE3 HL5
    rw [← hV]
    clear hV
    have g0 : V.cell? ⟨w.heap.size, 0, none⟩ = some (.slice Aa X.length ca) := HZ1.out.cell 0
    have g1 : V.cell? ⟨w.heap.size, 1, none⟩ = some (.slice Ab Bs.length cb) := HZ1.out.cell 1
    have g2 : V.cell? ⟨w.heap.size + 1, 0, none⟩ = some (.slice Ca Y.length da) := HZ2.out.cell 0
    have g3 : V.cell? ⟨w.heap.size + 1, 1, none⟩ = some (.slice Cb Cs.length db) := HZ2.out.cell 1
    refine bodyPost_ret (v := .tuple #[.agg #[.slice Aa X.length ca, .slice Ab Bs.length cb], .agg #[.slice Ca Y.length da, .slice Cb Cs.length db]]) ?_ rfl ⟨_, _, rfl, ⟨X, Bs, HE1.out.drewN 1⟩, ⟨Y, Cs, HE3.out.drewN 1⟩, below_drewN HL5.out 1⟩
    simp [results, Tryz.results36, go_sem, g0, g1, g2, g3]
end Go.Proofs.YtnlaoainhlfemaaGreat

set_option maxRecDepth 100000
set_option linter.unusedVariables false
set_option linter.unusedSimpArgs false
namespace Go.Proofs.YtnlaoainhlfemaaGreat
open Go.RowKit

set_option maxHeartbeats 400000 in
theorem l_likeInts (w : World) (a b : Value) (xs ys : List Int) (ha : Ints w a xs) (hb : Ints w b ys) :
    Calls Tryz.prog 31 #[a, b] w fun e w' => e = .returned (.bool (decide (xs = ys))) ∧ ∃ n, w' = w.drewN n := by
  obtain ⟨A, c, rfl, h1, h2, h3⟩ := ha.open_
  obtain ⟨B, d, rfl, g1, g2, g3⟩ := hb.open_
  clear ha hb
  have H3 := Lib.hid h3
  have G3 := Lib.hid g3
  clear h3 g3
  by_cases hl : xs.length = ys.length
  · have hl' : (((xs.length : Nat) : Int) != ((ys.length : Nat) : Int)) = false := by simp [hl]
    have HL := Lib.hid hl
    clear hl
    have g4 : ys.length ≤ xs.length := by rw [HL.out]; omega
    have g5 : xs.length ≤ ys.length := by rw [HL.out]; omega
    go_enter Tryz.func31, Tryz.ntmps31
    go_wp2
    go_loopw [5] (fun i wr => ∃ k n : Nat, k ≤ xs.length ∧ i = .int .i64 k ∧ xs.take k = ys.take k ∧ wr = w.drewN n) (fun i _ => xs.length - (intOf i).toNat)
    case atStart => exact ⟨0, 0, Nat.zero_le _, rfl, rfl, rfl⟩
    case round =>
      obtain ⟨k, n, hk, rfl, ht, rfl⟩ := hrel
      have HT := Lib.hid ht
      clear ht
      by_cases hlt : k < xs.length
      · obtain ⟨ad, z, rfl, hz, hz2, hc⟩ := H3.out k hlt
        obtain ⟨ad', y, rfl, hy, hy2, hc'⟩ := G3.out k (by omega)
        have HZ := Lib.hid hz
        have HY := Lib.hid hy
        clear hz hy hz2 hy2
        go_wp2
        go_quiet (fail)
        go_wp2
        · have hne : (z != y) = true := by assumption
          go_ret
          refine ⟨ret_bool ?_, _, World.drewN_drewN _ _ _⟩
          symm
          simp only [decide_eq_false_iff_not]
          rintro rfl
          have := HZ.out.symm.trans HY.out
          simp at this hne
          exact hne this
        · have hne : (z != y) = false := by assumption
          go_roundw
          case rel => exact ⟨k + 1, _, by omega, by go_num, take_eq_succ HT.out HZ.out HY.out (by simpa using hne), rfl⟩
          case measure => simp [intOf]; omega
      · have : k = xs.length := by omega
        subst this
        go_wp2
        go_ret
        refine ⟨ret_bool ?_, _, rfl⟩
        have e := HT.out
        rw [List.take_length, List.take_of_length_le (by omega)] at e
        simp [e]
  · have hl' : (((xs.length : Nat) : Int) != ((ys.length : Nat) : Int)) = true := by simp; omega
    have HL := Lib.hid hl
    clear hl
    go_enter Tryz.func31, Tryz.ntmps31
    go_wp2
    go_ret
    refine ⟨ret_bool ?_, 0, rfl⟩
    have := HL.out
    symm
    simp only [decide_eq_false_iff_not]
    rintro rfl
    exact this rfl

set_option maxHeartbeats 400000 in
theorem l_big (w : World) (A : Option Addr) (n c : Nat) :
    Calls Tryz.prog 7 #[.slice A n c] w fun e w' => e = .returned (.bool (decide (4096 < n))) ∧ w = w' := by
  by_cases h : 4096 < n
  · have hd : (4096 : Int) < (n : Int) := by omega
    have HD := Lib.hid (show decide (4096 < n) = true by simp [h])
    clear h
    go_enter Tryz.func7, Tryz.ntmps7
    go_wp2_with fail
    go_ret
    exact ⟨ret_bool HD.out.symm, rfl⟩
  · have hd : ¬ ((4096 : Int) < (n : Int)) := by omega
    have HD := Lib.hid (show decide (4096 < n) = false by simp [h])
    clear h
    go_enter Tryz.func7, Tryz.ntmps7
    go_wp2_with fail
    go_ret
    exact ⟨ret_bool HD.out.symm, rfl⟩
end Go.Proofs.YtnlaoainhlfemaaGreat

set_option maxRecDepth 100000
set_option linter.unusedVariables false
set_option linter.unusedSimpArgs false
namespace Go.Proofs.YtnlaoainhlfemaaGreat
open Go.RowKit

set_option maxHeartbeats 4000000 in
theorem l_likeRows5 (w : World) (a b : Value) (xs ys : List (List Int)) (ha : Rows w a xs) (hb : Rows w b ys) :
    Calls Tryz.prog 95 #[a, b] w fun e w' => e = .returned (.bool (decide (xs = ys))) ∧ ∃ n, w' = w.drewN n := by
  obtain ⟨A, c, rfl, h1, h2, h3⟩ := ha.open_
  obtain ⟨B, d, rfl, g1, g2, g3⟩ := hb.open_
  clear ha hb
  have H3 := Lib.hid h3
  have G3 := Lib.hid g3
  clear h3 g3
  by_cases hl : xs.length = ys.length
  · have hl' : (((xs.length : Nat) : Int) != ((ys.length : Nat) : Int)) = false := by simp [hl]
    have HL := Lib.hid hl
    clear hl
    have g4 : ys.length ≤ xs.length := by rw [HL.out]; omega
    have g5 : xs.length ≤ ys.length := by rw [HL.out]; omega
    go_enter Tryz.func95, Tryz.ntmps95
    go_wp2
    go_loopw [5] (fun i wr => ∃ k n : Nat, k ≤ xs.length ∧ i = .int .i64 k ∧ xs.take k = ys.take k ∧ wr = w.drewN n) (fun i _ => xs.length - (intOf i).toNat)
    case atStart => exact ⟨0, 0, Nat.zero_le _, rfl, rfl, rfl⟩
    case round =>
      obtain ⟨k, n, hk, rfl, ht, rfl⟩ := hrel
      have HT := Lib.hid ht
      clear ht
      by_cases hlt : k < xs.length
      · obtain ⟨ad, u, z, rfl, hz, hz2, hc⟩ := H3.out k hlt
        obtain ⟨ad', u', y, rfl, hy, hy2, hc'⟩ := G3.out k (by omega)
        have HZ := Lib.hid hz
        have HY := Lib.hid hy
        have HZ2 := Lib.hid hz2
        have HY2 := Lib.hid hy2
        clear hz hy hz2 hy2
        have HLI := Lib.hid (fun m => l_likeInts (w.drewN m) u u' z y (HZ2.out.drewN m) (HY2.out.drewN m))
        by_cases hzy : z = y
        · have HZY := Lib.hid hzy
          simp only [show decide (z = y) = true from decide_eq_true hzy] at HLI
          clear hzy
          go_wp2
          go_quiet (first
            | (go_at_call 31; exact quiet_more (HLI.out _)))
          go_wp2
          go_roundw
          case rel => exact ⟨k + 1, _, by omega, by go_num, rtake_succ HT.out HZ.out HY.out HZY.out, rfl⟩
          case measure => simp [intOf]; omega
        · have HZY := Lib.hid hzy
          simp only [show decide (z = y) = false from decide_eq_false hzy] at HLI
          clear hzy
          go_wp2
          go_quiet (first
            | (go_at_call 31; exact quiet_more (HLI.out _)))
          go_wp2
          go_ret
          refine ⟨ret_bool ?_, _, by first | rfl | exact World.drewN_drewN _ _ _ | simp⟩
          symm
          simp only [decide_eq_false_iff_not]
          rintro rfl
          have := HZ.out.symm.trans HY.out
          injection this with this
          exact HZY.out this
      · have : k = xs.length := by omega
        subst this
        go_wp2
        go_ret
        refine ⟨ret_bool ?_, _, rfl⟩
        have e := HT.out
        rw [List.take_length, List.take_of_length_le (by omega)] at e
        simp [e]
  · have hl' : (((xs.length : Nat) : Int) != ((ys.length : Nat) : Int)) = true := by simp; omega
    have HL := Lib.hid hl
    clear hl
    go_enter Tryz.func95, Tryz.ntmps95
    go_wp2
    go_ret
    refine ⟨ret_bool ?_, 0, rfl⟩
    have := HL.out
    symm
    simp only [decide_eq_false_iff_not]
    rintro rfl
    exact this rfl
set_option maxHeartbeats 4000000 in
theorem l_likeTableau5 (w : World) (v v' : Value) (A A' : List (List Int)) (Bs Bs' : List Int) (ha : TabArg w v A Bs) (hb : TabArg w v' A' Bs') :
    Calls Tryz.prog 39 #[v, v'] w fun e w' => e = .returned (.bool (decide (A = A') && decide (Bs = Bs'))) ∧ Below w.heap.size w w' := by
  obtain ⟨va, vb, rfl, ha1, ha2⟩ := ha
  obtain ⟨va', vb', rfl, hb1, hb2⟩ := hb
  obtain ⟨A1, c1, rfl, -, -, -⟩ := ha1.open_
  obtain ⟨A2, c2, rfl, -, -, -⟩ := ha2.open_
  obtain ⟨A3, c3, rfl, -, -, -⟩ := hb1.open_
  obtain ⟨A4, c4, rfl, -, -, -⟩ := hb2.open_
  obtain ⟨W, hW⟩ : ∃ W, W = (w.alloc (.cells #[.slice A1 A.length c1, .slice A2 Bs.length c2] 37)).alloc (.cells #[.slice A3 A'.length c3, .slice A4 Bs'.length c4] 37) := ⟨_, rfl⟩
  have hbw : Below w.heap.size w W := by rw [hW]; exact below2 w _ _
  have HBW := Lib.hid hbw
  have HK1 := Lib.hid (show Blk W w.heap.size 37 #[.slice A1 A.length c1, .slice A2 Bs.length c2] from by rw [hW]; exact (Blk.new _ _ _).alloc _)
  have HK2 := Lib.hid (show Blk W (w.heap.size + 1) 37 #[.slice A3 A'.length c3, .slice A4 Bs'.length c4] from by rw [hW]; exact Blk.new1 _ _ _ _)
  have HR1 := Lib.hid (ha1.below hbw)
  have HR2 := Lib.hid (hb1.below hbw)
  have HI1 := Lib.hid (ha2.below hbw)
  have HI2 := Lib.hid (hb2.below hbw)
  have HLR := Lib.hid (fun m => l_likeRows5 (W.drewN m) _ _ A A' (HR1.out.drewN m) (HR2.out.drewN m))
  have HLI := Lib.hid (fun m => l_likeInts (W.drewN m) _ _ Bs Bs' (HI1.out.drewN m) (HI2.out.drewN m))
  clear ha1 ha2 hb1 hb2 hbw
  generalize decide (A = A') = d1 at *
  generalize decide (Bs = Bs') = d2 at *
  have q0 : ∀ m, (W.drewN m).cell? ⟨w.heap.size, 0, none⟩ = some (.slice A1 A.length c1) := fun m => HK1.out.cell 0
  have q1 : ∀ m, (W.drewN m).cell? ⟨w.heap.size, 1, none⟩ = some (.slice A2 Bs.length c2) := fun m => HK1.out.cell 1
  have q2 : ∀ m, (W.drewN m).cell? ⟨w.heap.size + 1, 0, none⟩ = some (.slice A3 A'.length c3) := fun m => HK2.out.cell 0
  have q3 : ∀ m, (W.drewN m).cell? ⟨w.heap.size + 1, 1, none⟩ = some (.slice A4 Bs'.length c4) := fun m => HK2.out.cell 1
  have p0 : W.cell? ⟨w.heap.size, 0, none⟩ = some (.slice A1 A.length c1) := HK1.out.cell 0
  have p1 : W.cell? ⟨w.heap.size, 1, none⟩ = some (.slice A2 Bs.length c2) := HK1.out.cell 1
  have p2 : W.cell? ⟨w.heap.size + 1, 0, none⟩ = some (.slice A3 A'.length c3) := HK2.out.cell 0
  have p3 : W.cell? ⟨w.heap.size + 1, 1, none⟩ = some (.slice A4 Bs'.length c4) := HK2.out.cell 1
  go_enter Tryz.func39, Tryz.ntmps39
  go_upto_region 1 with fail
  rw [← hW]
  clear hW
  cases d1 with
  | false =>
    go_wp2_with (go_at_call 95; refine (HLR.out 0).mono ?_; rintro e w3 ⟨rfl, n3, rfl⟩)
    go_ret
    exact ⟨rfl, below_drewN (below_drewN HBW.out 0) n3⟩
  | true =>
    go_wp2_with (first
      | (go_at_call 95; refine (HLR.out 0).mono ?_; rintro e w3 ⟨rfl, n3, rfl⟩; rw [World.drewN_drewN])
      | (go_at_call 31; refine (HLI.out _).mono ?_; rintro e w4 ⟨rfl, n4, rfl⟩))
    go_ret
    exact ⟨rfl, below_drewN HBW.out _⟩
end Go.Proofs.YtnlaoainhlfemaaGreat

