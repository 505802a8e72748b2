/-
  The walk of the reference's Decode.
-/
import Derived.Test.YtjgfhkgjaodjhaaDec
namespace Go.Proofs.Ytjgfhkgjaodjhaa
open Go.RowKit

theorem list12 (zs : List Int) (hz : zs.length = 12) : ∃ a0 a1 a2 a3 a4 a5 a6 a7 a8 a9 b0 b1, zs = [a0, a1, a2, a3, a4, a5, a6, a7, a8, a9, b0, b1] := by
  match zs, hz with
  | [a0, a1, a2, a3, a4, a5, a6, a7, a8, a9, b0, b1], _ => exact ⟨_, _, _, _, _, _, _, _, _, _, _, _, rfl⟩

set_option maxHeartbeats 1000000 in
theorem rdec_yes (b o cap : Nat) (zs : List Int) (hz : zs.length = 12) (hu : IsB zs) (w : World) (hb : b < w.heap.size) (hcap : 12 ≤ cap) (hcell : ∀ j, j < 12 → w.cell? ⟨b, o + j, none⟩ = some (.int .u8 (zs.getD j 0))) :
    Calls Try.prog 16 #[.slice (some ⟨b, o, none⟩) 12 cap] w fun e w' => e = .returned (.tuple #[.agg #[.int .i64 (foldB (zs.take 4)), .int .i64 (wrap64 (foldB (zs.drop 4)))], .bool true]) ∧ Below w.heap.size w w' := by
  obtain ⟨a0, a1, a2, a3, a4, a5, a6, a7, a8, a9, b0, b1, rfl⟩ := list12 zs hz
  have e0 : foldB ([a0, a1, a2, a3, a4, a5, a6, a7, a8, a9, b0, b1].take 4) = a0 * 16777216 + a1 * 65536 + a2 * 256 + a3 := by simp [foldB]; omega
  have e1 : foldB ([a0, a1, a2, a3, a4, a5, a6, a7, a8, a9, b0, b1].drop 4) = (a4 * 16777216 + a5 * 65536 + a6 * 256 + a7) * 4294967296 + (a8 * 16777216 + a9 * 65536 + b0 * 256 + b1) := by simp [foldB]; omega
  rw [e0, e1]
  have hh : ∀ x ∈ [a0, a1, a2, a3, a4, a5, a6, a7, a8, a9, b0, b1], 0 ≤ x ∧ x < 256 := hu
  simp only [List.mem_cons, List.not_mem_nil, or_false, forall_eq_or_imp, forall_eq] at hh
  obtain ⟨h0, h1, h2, h3, h4, h5, h6, h7, h8, h9, k0, k1⟩ := hh
  have q0 := hcell 0 (by omega)
  have q1 := hcell 1 (by omega)
  have q2 := hcell 2 (by omega)
  have q3 := hcell 3 (by omega)
  have q4 := hcell 4 (by omega)
  have q5 := hcell 5 (by omega)
  have q6 := hcell 6 (by omega)
  have q7 := hcell 7 (by omega)
  have q8 := hcell 8 (by omega)
  have q9 := hcell 9 (by omega)
  have r0 := hcell 10 (by omega)
  have r1 := hcell 11 (by omega)
  simp only [List.getD, List.getElem?_cons_zero, List.getElem?_cons_succ, Option.getD_some] at q0 q1 q2 q3 q4 q5 q6 q7 q8 q9 r0 r1
  clear e0 e1 hcell hz hu
  have F4 : ∀ W : World, Grow w W → Calls Try.prog 20 #[.slice (some ⟨b, o + 4, none⟩) 8 (cap - 4)] W fun e w' => e = .returned (.int .i64 (a4 * 16777216 + a5 * 65536 + a6 * 256 + a7)) ∧ Below W.heap.size W w' := fun W hG =>
    fromFour_any b (o + 4) (cap - 4) 8 a4 a5 a6 a7 W (by omega) ((Below.cell hG (p := ⟨b, _, none⟩) hb).trans q4) ((Below.cell hG (p := ⟨b, _, none⟩) hb).trans q5) ((Below.cell hG (p := ⟨b, _, none⟩) hb).trans q6) ((Below.cell hG (p := ⟨b, _, none⟩) hb).trans q7) ⟨by omega, by omega⟩ ⟨by omega, by omega⟩ ⟨by omega, by omega⟩ ⟨by omega, by omega⟩
  have F8 : ∀ W : World, Grow w W → Calls Try.prog 20 #[.slice (some ⟨b, o + 8, none⟩) 4 (cap - 8)] W fun e w' => e = .returned (.int .i64 (a8 * 16777216 + a9 * 65536 + b0 * 256 + b1)) ∧ Below W.heap.size W w' := fun W hG =>
    fromFour_any b (o + 8) (cap - 8) 4 a8 a9 b0 b1 W (by omega) ((Below.cell hG (p := ⟨b, _, none⟩) hb).trans q8) ((Below.cell hG (p := ⟨b, _, none⟩) hb).trans q9) ((Below.cell hG (p := ⟨b, _, none⟩) hb).trans r0) ((Below.cell hG (p := ⟨b, _, none⟩) hb).trans r1) ⟨by omega, by omega⟩ ⟨by omega, by omega⟩ ⟨by omega, by omega⟩ ⟨by omega, by omega⟩
  have F0 : ∀ W : World, Grow w W → Calls Try.prog 20 #[.slice (some ⟨b, o, none⟩) 12 cap] W fun e w' => e = .returned (.int .i64 (a0 * 16777216 + a1 * 65536 + a2 * 256 + a3)) ∧ Below W.heap.size W w' := fun W hG =>
    fromFour_any b o cap 12 a0 a1 a2 a3 W (by omega) ((Below.cell hG (p := ⟨b, _, none⟩) hb).trans q0) ((Below.cell hG (p := ⟨b, _, none⟩) hb).trans q1) ((Below.cell hG (p := ⟨b, _, none⟩) hb).trans q2) ((Below.cell hG (p := ⟨b, _, none⟩) hb).trans q3) ⟨by omega, by omega⟩ ⟨by omega, by omega⟩ ⟨by omega, by omega⟩ ⟨by omega, by omega⟩
  obtain ⟨A, hA⟩ : ∃ A, A = a4 * 16777216 + a5 * 65536 + a6 * 256 + a7 := ⟨_, rfl⟩
  obtain ⟨B, hB⟩ : ∃ B, B = a8 * 16777216 + a9 * 65536 + b0 * 256 + b1 := ⟨_, rfl⟩
  obtain ⟨T, hT⟩ : ∃ T, T = a0 * 16777216 + a1 * 65536 + a2 * 256 + a3 := ⟨_, rfl⟩
  rw [← hA] at F4 ⊢
  rw [← hB] at F8 ⊢
  rw [← hT] at F0 ⊢
  have A0 : 0 ≤ A ∧ A ≤ 4294967295 := by omega
  have B0 : 0 ≤ B ∧ B ≤ 4294967295 := by omega
  clear hA hB hT h0 h1 h2 h3 h4 h5 h6 h7 h8 h9 k0 k1 q0 q1 q2 q3 q4 q5 q6 q7 q8 q9 r0 r1
  obtain ⟨A1, A2⟩ := A0
  obtain ⟨B1, B2⟩ := B0
  have hor := oru64 32 4294967296 (A * 4294967296) B rfl (by omega) (by omega) (by omega) (by omega) (by omega)
  have hc4 : ¬ cap = 4 := by omega
  have hc8 : ¬ cap = 8 := by omega
  have HF := Lib.hid (And.intro F4 (And.intro F8 F0))
  clear F4 F8 F0
  go_enter Try.func16, Try.ntmps16
  go_wp2
  refine wp_region_beyond (w.heap.size + 1) (by kernel_rfl) (by kernel_rfl) ?_
  have HG : ∀ x : Beyond (w.heap.size + 1) (w.alloc (.cells #[.int .i64 0, .int .i64 0] 29)), Grow w x.w := fun x => ((Grow.refl w).alloc _).trans (x.h.mono (by simp))
  have HH := Lib.hid HG
  clear HG
  iterate 2 (go_big_quiet_step (fail))
  go_big_quiet_step ((exact Calls.beyond (by simp) (HF.out.1 _ (HH.out _))))
  iterate 4 (go_big_quiet_step (fail))
  go_big_quiet_step ((exact Calls.beyond (by simp) (HF.out.2.1 _ (HH.out _))))
  iterate 3 (go_big_quiet_step (fail))
  refine wpQuiet_nil ?_
  rintro w1 ⟨⟨_, hb1⟩, rfl⟩
  have g1 : Grow w w1 := ((Grow.refl w).alloc _).trans (hb1.mono (by simp))
  have z0 : w1.cell? ⟨w.heap.size, 0, none⟩ = some (.int .i64 0) := (hb1.cell (p := ⟨w.heap.size, 0, none⟩) (by simp)).trans (by simp [go_sem])
  have z1 : w1.cell? ⟨w.heap.size, 1, none⟩ = some (.int .i64 0) := (hb1.cell (p := ⟨w.heap.size, 1, none⟩) (by simp)).trans (by simp [go_sem])
  have y0 : w1.frozen? ⟨w.heap.size, 0, none⟩ = false := (hb1.frozen (p := ⟨w.heap.size, 0, none⟩) (by simp)).trans (by simp [go_sem])
  have y1 : w1.frozen? ⟨w.heap.size, 1, none⟩ = false := (hb1.frozen (p := ⟨w.heap.size, 1, none⟩) (by simp)).trans (by simp [go_sem])
  have s1 := hb1.size
  simp only [World.size_alloc] at s1
  clear hb1
  go_wp2_with fail
  refine (HF.out.2.2 w1 g1).mono ?_
  rintro e w2 ⟨rfl, hb2⟩
  have u0 := (hb2.cell (p := ⟨w.heap.size, 0, none⟩) (by simp; omega)).trans z0
  have u1 := (hb2.cell (p := ⟨w.heap.size, 1, none⟩) (by simp; omega)).trans z1
  have v0 := (hb2.frozen (p := ⟨w.heap.size, 0, none⟩) (by simp; omega)).trans y0
  have v1 := (hb2.frozen (p := ⟨w.heap.size, 1, none⟩) (by simp; omega)).trans y1
  have g2 : Below w.heap.size w w2 := Below.trans g1 (hb2.mono (by omega))
  clear z0 z1 y0 y1 hb2
  go_wp2
  refine bodyPost_ret (v := .tuple #[.agg #[.int .i64 T, .int .i64 (wrap64 (A * 4294967296 + B))], .bool true]) (by simp [results, Try.results16, go_sem, u0, u1]) rfl ⟨rfl, ?_⟩
  exact (g2.setCell (Nat.le_refl _) _).setCell (Nat.le_refl _) _
end Go.Proofs.Ytjgfhkgjaodjhaa
