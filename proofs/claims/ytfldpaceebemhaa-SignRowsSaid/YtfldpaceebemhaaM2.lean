/-
  The walk of SignRows.
-/
import Derived.Test.YtfldpaceebemhaaM1
import Derived.Test.YtfldpaceebemhaaN3
import Derived.Test.YtfldpaceebemhaaN6
namespace Go.Proofs.Ytfldpaceebemhaa
open Go.RowKit

set_option maxRecDepth 100000 in
set_option maxHeartbeats 4000000 in
theorem rows_law (s : ByteArray) (i : Int) (w : World) (hs : s.size ≤ maxLen) : Calls Try.prog 5 #[.string s, .int .i64 i] w fun e w' => e = .returned (.bool true) ∧ Grow w w' := by
  unfold maxLen at hs
  have F10 : Hid (∀ W, Calls Try.prog 10 #[] W fun e w' => e = .returned (.bool true) ∧ Below W.heap.size W w') := Lib.hid (fun W => known_any W)
  have F13 := Lib.hid (fun s W => of13_any s W)
  have F14 := Lib.hid (fun s W => of14_any s W)
  have F15 := Lib.hid (fun W => names15_any W)
  have F16 := Lib.hid (fun W => names16_any W)
  go_enter Try.func5, Try.ntmps5
  by_cases hl : (300 : Int) < (s.size : Int)
  · go_wp2
    go_ret
    exact ⟨rfl, Grow.refl _⟩
  go_wp2_with fail
  refine (F13.out s _).mono ?_
  rintro e w1 ⟨d, ok, nv, mv, rfl, i1, i2, g1, hof⟩
  obtain ⟨a1, n1, z1, rfl⟩ := i1.shape
  obtain ⟨a2, n2, z2, rfl⟩ := i2.shape
  obtain ⟨w2, hw2⟩ : ∃ w2, w2 = w1.alloc (.cells #[.string d.name, .slice a1 n1 z1, .slice a2 n2 z2, .int .i64 d.rest] 34) := ⟨_, rfl⟩
  have B1 := Lib.hid (show w2.heap[w1.heap.size]? = some (.cells #[.string d.name, .slice a1 n1 z1, .slice a2 n2 z2, .int .i64 d.rest] 34 (0, 0)) from by rw [hw2]; exact heap_alloc_new w1 _)
  have g12 : Grow w1 w2 := by rw [hw2]; exact (Grow.refl _).alloc _
  have zz2 : w2.heap.size = w1.heap.size + 1 := by rw [hw2]; simp
  have I1 := Lib.hid (i1.grow g12)
  have I2 := Lib.hid (i2.grow g12)
  have G2 := Lib.hid (g1.trans g12)
  have HOF := Lib.hid hof
  clear i1 i2 g1 g12 hof
  go_wp2_with fail
  rw [← hw2]
  clear hw2
  refine (F14.out s _).mono ?_
  rintro e w3 ⟨d', ok', nv', mv', rfl, i3, i4, g3, hof'⟩
  have hdd : (d', ok') = (d, ok) := by rw [← hof', HOF.out]
  injection hdd with hd1 hd2
  subst hd1 hd2
  obtain ⟨a3, n3, z3, rfl⟩ := i3.shape
  obtain ⟨a4, n4, z4, rfl⟩ := i4.shape
  obtain ⟨w4, hw4⟩ : ∃ w4, w4 = w3.alloc (.cells #[.string d'.name, .slice a3 n3 z3, .slice a4 n4 z4, .int .i64 d'.rest] 37) := ⟨_, rfl⟩
  have B3 := Lib.hid (show w4.heap[w3.heap.size]? = some (.cells #[.string d'.name, .slice a3 n3 z3, .slice a4 n4 z4, .int .i64 d'.rest] 37 (0, 0)) from by rw [hw4]; exact heap_alloc_new w3 _)
  have g34 : Grow w3 w4 := by rw [hw4]; exact (Grow.refl _).alloc _
  have zz4 : w4.heap.size = w3.heap.size + 1 := by rw [hw4]; simp
  have I3 := Lib.hid (i3.grow g34)
  have I4 := Lib.hid (i4.grow g34)
  have G4 := Lib.hid (g3.trans g34)
  have zz3 := G4.out.size
  have zg3 := g3.size
  clear i3 i4 g3 g34 hof'
  go_wp2_with fail
  rw [← hw4]
  clear hw4
  refine (F15.out _).mono ?_
  rintro e w5 ⟨gl, cl, rfl, na, g5⟩
  have NA := Lib.hid na
  have G5 := Lib.hid g5
  have zz5 := g5.size
  clear na g5
  go_wp2_with fail
  refine (F16.out _).mono ?_
  rintro e w6 ⟨gm, cm, rfl, nb, g6⟩
  have NB := Lib.hid nb
  have NA6 := Lib.hid (NA.out.grow g6)
  have G46 := Lib.hid (G5.out.trans g6)
  have zz6 := g6.size
  have hb1 := (Below.block (G4.out.trans G46.out) _ (show w1.heap.size < w2.heap.size by omega)).trans B1.out
  have hb3 := (Below.block G46.out _ (show w3.heap.size < w4.heap.size by omega)).trans B3.out
  have c0 := cell_blk hb1 0
  have c1 := cell_blk hb1 1
  have c2 := cell_blk hb1 2
  have c3 := cell_blk hb1 3
  have d0 := cell_blk hb3 0
  have d1 := cell_blk hb3 1
  have d2 := cell_blk hb3 2
  have d3 := cell_blk hb3 3
  simp at c0 c1 c2 c3 d0 d1 d2 d3
  have SG := Lib.hid (sigs_same d' _ _ _ _ w6 (I1.out.grow (G4.out.trans G46.out)) (I2.out.grow (G4.out.trans G46.out)) (I3.out.grow G46.out) (I4.out.grow G46.out))
  clear nb g6 NA hb1 hb3
  go_wp2_with fail
  refine SG.out.mono ?_
  rintro e w7 ⟨rfl, g7⟩
  have G7 := Lib.hid ((G2.out.trans (G4.out.trans G46.out)).trans g7)
  have NA7 := Lib.hid (NA6.out.grow g7)
  have NB7 := Lib.hid (NB.out.grow g7)
  clear c0 c1 c2 c3 d0 d1 d2 d3 g7 SG I1 I2 I3 I4 B1 B3 NA6 NB G2 G4 G5 G46
  obtain ⟨q, hq, hqe⟩ := and16 i
  obtain ⟨x, hx⟩ : ∃ x, namesS[q]? = some x := ⟨_, List.getElem?_eq_getElem (by rw [namesS_len]; exact hq)⟩
  have hc := NA7.out.2 q x hx
  have hgl := NA7.out.1
  have HX := Lib.hid (show x ∈ namesT from names_perm.mem_iff.mpr (List.mem_of_getElem? hx))
  have HXX := Lib.hid hx
  have q0 : (0 : Int) ≤ (q : Int) := by omega
  have q1 : (q : Int) < 78 := by omega
  clear hx
  go_wp2_with fail
  refine (F13.out x _).mono ?_
  rintro e w8 ⟨d, ok, nv, mv, rfl, i1, i2, g8, hof⟩
  have hk := names_known x HX.out
  rw [hof] at hk
  simp only at hk
  subst hk
  obtain ⟨a1, n1, z1, rfl⟩ := i1.shape
  obtain ⟨a2, n2, z2, rfl⟩ := i2.shape
  obtain ⟨w9, hw9⟩ : ∃ w9, w9 = w8.alloc (.cells #[.string d.name, .slice a1 n1 z1, .slice a2 n2 z2, .int .i64 d.rest] 34) := ⟨_, rfl⟩
  have B1 := Lib.hid (show w9.heap[w8.heap.size]? = some (.cells #[.string d.name, .slice a1 n1 z1, .slice a2 n2 z2, .int .i64 d.rest] 34 (0, 0)) from by rw [hw9]; exact heap_alloc_new w8 _)
  have g89 : Grow w8 w9 := by rw [hw9]; exact (Grow.refl _).alloc _
  have zz9 : w9.heap.size = w8.heap.size + 1 := by rw [hw9]; simp
  have I1 := Lib.hid (i1.grow g89)
  have I2 := Lib.hid (i2.grow g89)
  have G9 := Lib.hid (g8.trans g89)
  have HOF := Lib.hid hof
  have hgm := (NB7.out.grow g8).1
  have hm := (NB7.out.grow g8).2 q x HXX.out
  clear i1 i2 g8 g89 hof
  go_wp2_with fail
  rw [← hw9]
  clear hw9
  refine (F14.out x _).mono ?_
  rintro e wa ⟨d', ok', nv', mv', rfl, i3, i4, ga, hof'⟩
  have hdd : (d', ok') = (d, true) := by rw [← hof', HOF.out]
  injection hdd with hd1 hd2
  subst hd1 hd2
  obtain ⟨a3, n3, z3, rfl⟩ := i3.shape
  obtain ⟨a4, n4, z4, rfl⟩ := i4.shape
  obtain ⟨wb, hwb⟩ : ∃ wb, wb = wa.alloc (.cells #[.string d'.name, .slice a3 n3 z3, .slice a4 n4 z4, .int .i64 d'.rest] 37) := ⟨_, rfl⟩
  have B3 := Lib.hid (show wb.heap[wa.heap.size]? = some (.cells #[.string d'.name, .slice a3 n3 z3, .slice a4 n4 z4, .int .i64 d'.rest] 37 (0, 0)) from by rw [hwb]; exact heap_alloc_new wa _)
  have gab : Grow wa wb := by rw [hwb]; exact (Grow.refl _).alloc _
  have zzb : wb.heap.size = wa.heap.size + 1 := by rw [hwb]; simp
  have Gb := Lib.hid (ga.trans gab)
  have zga := ga.size
  have SG := Lib.hid (sigs_same d' _ _ _ _ wb (I1.out.grow Gb.out) (I2.out.grow Gb.out) (i3.grow gab) (i4.grow gab))
  have SGy : Hid (∀ y : Beyond wb.heap.size wb, Calls Try.prog 17 #[.agg #[.string d'.name, .slice a1 n1 z1, .slice a2 n2 z2, .int .i64 d'.rest], .agg #[.string d'.name, .slice a3 n3 z3, .slice a4 n4 z4, .int .i64 d'.rest]] y.w fun e w' => e = .returned (.bool true) ∧ Below y.w.heap.size y.w w') :=
    Lib.hid (fun y => sigs_same d' _ _ _ _ y.w ((I1.out.grow Gb.out).grow y.h) ((I2.out.grow Gb.out).grow y.h) ((i3.grow gab).grow y.h) ((i4.grow gab).grow y.h))
  have Gw := Lib.hid ((G7.out.trans G9.out).trans Gb.out)
  have hl7 := NA7.out.grow (G9.out.trans Gb.out)
  have hm7 := NB7.out.grow (G9.out.trans Gb.out)
  have hb1 := (Below.block Gb.out _ (show w8.heap.size < w9.heap.size by omega)).trans B1.out
  have hgl1 := hl7.1
  have hgm1 := hm7.1
  have l1 := hl7.2 q x HXX.out
  have m1 := hm7.2 q x HXX.out
  have hz8 : w8.heap.size < wb.heap.size := by have := Gb.out.size; omega
  have hza : wa.heap.size < wb.heap.size := by omega
  have hxx : (x.toList == x.toList) = true := by simp
  clear i3 i4 ga gab hof' hl7 hm7 hc hm SG
  go_wp2_with fail
  rw [← hwb]
  clear hwb
  refine wp_region_beyond wb.heap.size (by kernel_rfl) (by kernel_rfl) ?_
  have y0 : ∀ y : Beyond wb.heap.size wb, y.w.cell? ⟨w8.heap.size, 0, none⟩ = some (.string d'.name) := fun y => (y.h.cell (p := ⟨_, 0, none⟩) hz8).trans (cell_blk hb1 0)
  have y1 : ∀ y : Beyond wb.heap.size wb, y.w.cell? ⟨w8.heap.size, 1, none⟩ = some (.slice a1 n1 z1) := fun y => (y.h.cell (p := ⟨_, 1, none⟩) hz8).trans (cell_blk hb1 1)
  have y2 : ∀ y : Beyond wb.heap.size wb, y.w.cell? ⟨w8.heap.size, 2, none⟩ = some (.slice a2 n2 z2) := fun y => (y.h.cell (p := ⟨_, 2, none⟩) hz8).trans (cell_blk hb1 2)
  have y3 : ∀ y : Beyond wb.heap.size wb, y.w.cell? ⟨w8.heap.size, 3, none⟩ = some (.int .i64 d'.rest) := fun y => (y.h.cell (p := ⟨_, 3, none⟩) hz8).trans (cell_blk hb1 3)
  have y4 : ∀ y : Beyond wb.heap.size wb, y.w.cell? ⟨wa.heap.size, 0, none⟩ = some (.string d'.name) := fun y => (y.h.cell (p := ⟨_, 0, none⟩) hza).trans (cell_blk B3.out 0)
  have y5 : ∀ y : Beyond wb.heap.size wb, y.w.cell? ⟨wa.heap.size, 1, none⟩ = some (.slice a3 n3 z3) := fun y => (y.h.cell (p := ⟨_, 1, none⟩) hza).trans (cell_blk B3.out 1)
  have y6 : ∀ y : Beyond wb.heap.size wb, y.w.cell? ⟨wa.heap.size, 2, none⟩ = some (.slice a4 n4 z4) := fun y => (y.h.cell (p := ⟨_, 2, none⟩) hza).trans (cell_blk B3.out 2)
  have y7 : ∀ y : Beyond wb.heap.size wb, y.w.cell? ⟨wa.heap.size, 3, none⟩ = some (.int .i64 d'.rest) := fun y => (y.h.cell (p := ⟨_, 3, none⟩) hza).trans (cell_blk B3.out 3)
  have y8 : ∀ y : Beyond wb.heap.size wb, y.w.cell? ⟨gl, q, none⟩ = some (.string x) := fun y => (y.h.cell (p := ⟨_, q, none⟩) hgl1).trans l1
  have y9 : ∀ y : Beyond wb.heap.size wb, y.w.cell? ⟨gm, q, none⟩ = some (.string x) := fun y => (y.h.cell (p := ⟨_, q, none⟩) hgm1).trans m1
  clear l1 m1 hb1
  repeat (go_big_quiet_step ((first
    | (go_at_call 17; exact Calls.beyond (Nat.le_refl _) (SGy.out _))
    | (go_at_call 10; exact Calls.beyond (Nat.le_refl _) (F10.out _)))))
  refine wpQuiet_nil ?_
  rintro wz ⟨⟨_, hbz⟩, rfl⟩
  have GZ := Lib.hid (Gw.out.trans hbz)
  clear y0 y1 y2 y3 y4 y5 y6 y7 y8 y9 hbz
  go_wp2
  go_ret
  exact ⟨rfl, GZ.out⟩
end Go.Proofs.Ytfldpaceebemhaa
