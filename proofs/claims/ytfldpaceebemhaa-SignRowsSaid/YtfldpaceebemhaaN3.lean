/-
  numbers, sigs.
-/
import Derived.Test.YtfldpaceebemhaaN2
namespace Go.Proofs.Ytfldpaceebemhaa
open Go.RowKit

set_option maxHeartbeats 1000000 in
theorem numbers_same (xs : List Int) (v1 v2 : Value) (w : World) (h1 : IntsIn xs v1 w) (h2 : IntsIn xs v2 w) : Calls Try.prog 29 #[v1, v2] w fun e w' => e = .returned (.bool true) ∧ Grow w w' := by
  obtain ⟨hl, a1, z1, rfl, c1⟩ := h1.open'
  obtain ⟨-, a2, z2, rfl, c2⟩ := h2.open'
  obtain ⟨n, hN⟩ : ∃ n, n = xs.length := ⟨_, rfl⟩
  rw [← hN] at hl ⊢
  unfold maxLen at hl
  have HN := Lib.hid hN
  have C1 := Lib.hid c1
  have C2 := Lib.hid c2
  clear h1 h2 c1 c2 hN
  go_enter Try.func29, Try.ntmps29
  go_wp2
  go_loopw [5] (fun i wr => ∃ k : Nat, k ≤ n ∧ i = .int .i64 k ∧ Grow w wr) (fun i _ => n - (intOf i).toNat)
  case atStart => exact ⟨0, by omega, rfl, Grow.refl _⟩
  case round =>
    obtain ⟨k, hk, rfl, hb⟩ := hrel
    have k0 : (0 : Int) ≤ (k : Int) := by omega
    by_cases hlt : k < n
    · have k1 : (k : Int) < (n : Int) := by omega
      obtain ⟨x, hx⟩ : ∃ x, xs[k]? = some x := ⟨_, List.getElem?_eq_getElem (by rw [← HN.out]; exact hlt)⟩
      obtain ⟨g1, rfl, hg1, q1⟩ := C1.out k x hx
      obtain ⟨g2, rfl, hg2, q2⟩ := C2.out k x hx
      replace q1 := (Below.cell hb (p := ⟨g1, k, none⟩) hg1).trans q1
      replace q2 := (Below.cell hb (p := ⟨g2, k, none⟩) hg2).trans q2
      have HB := Lib.hid hb
      clear hx hb
      go_wp2
      go_quiet (fail)
      go_wp2
      go_roundw
      case rel => exact ⟨k + 1, by omega, by go_num, below_drewN HB.out _⟩
      case measure => simp [intOf]; omega
    · have k1 : ¬ (k : Int) < (n : Int) := by omega
      have HB := Lib.hid hb
      clear hb
      go_wp2
      go_ret
      exact ⟨rfl, HB.out⟩
set_option maxHeartbeats 1000000 in
theorem sigs_same (d : SigD) (nv mv nv' mv' : Value) (w : World) (h1 : IntsIn d.need nv w) (h2 : IntsIn d.may mv w) (h3 : IntsIn d.need nv' w) (h4 : IntsIn d.may mv' w) :
    Calls Try.prog 17 #[.agg #[.string d.name, nv, mv, .int .i64 d.rest], .agg #[.string d.name, nv', mv', .int .i64 d.rest]] w fun e w' => e = .returned (.bool true) ∧ Grow w w' := by
  obtain ⟨a1, n1, z1, rfl⟩ := h1.shape
  obtain ⟨a2, n2, z2, rfl⟩ := h2.shape
  obtain ⟨a3, n3, z3, rfl⟩ := h3.shape
  obtain ⟨a4, n4, z4, rfl⟩ := h4.shape
  obtain ⟨nm, need, may, rest⟩ := d
  simp only at h1 h2 h3 h4 ⊢
  have F1 : Hid (∀ W, Grow w W → Calls Try.prog 29 #[.slice a1 n1 z1, .slice a3 n3 z3] W fun e w' => e = .returned (.bool true) ∧ Grow W w') := Lib.hid (fun W hW => numbers_same need _ _ W (h1.grow hW) (h3.grow hW))
  have F2 : Hid (∀ W, Grow w W → Calls Try.prog 29 #[.slice a2 n2 z2, .slice a4 n4 z4] W fun e w' => e = .returned (.bool true) ∧ Grow W w') := Lib.hid (fun W hW => numbers_same may _ _ W (h2.grow hW) (h4.grow hW))
  clear h1 h2 h3 h4
  have he : (nm.toList == nm.toList) = true := by simp
  go_enter Try.func17, Try.ntmps17
  go_wp2_with fail
  refine (F1.out _ (((Grow.refl _).alloc _).alloc _)).mono ?_
  rintro e w1 ⟨rfl, g1⟩
  have b1 : w1.heap[w.heap.size]? = some (.cells #[.string nm, .slice a1 n1 z1, .slice a2 n2 z2, .int .i64 rest] 34 (0, 0)) :=
    (Below.block g1 _ (by simp; omega)).trans ((Below.block ((Grow.refl (w.alloc (.cells #[.string nm, .slice a1 n1 z1, .slice a2 n2 z2, .int .i64 rest] 34))).alloc (.cells #[.string nm, .slice a3 n3 z3, .slice a4 n4 z4, .int .i64 rest] 37)) _ (by simp)).trans (heap_alloc_new w _))
  have b2 : w1.heap[w.heap.size + 1]? = some (.cells #[.string nm, .slice a3 n3 z3, .slice a4 n4 z4, .int .i64 rest] 37 (0, 0)) :=
    (Below.block g1 _ (by simp)).trans (by have := heap_alloc_new (w.alloc (.cells #[.string nm, .slice a1 n1 z1, .slice a2 n2 z2, .int .i64 rest] 34)) (.cells #[.string nm, .slice a3 n3 z3, .slice a4 n4 z4, .int .i64 rest] 37); simpa using this)
  have c2 := cell_blk b1 2
  have c3 := cell_blk b1 3
  have d2 := cell_blk b2 2
  have d3 := cell_blk b2 3
  simp at c2 c3 d2 d3
  have B1 := Lib.hid b1
  have B2 := Lib.hid b2
  have hz : w.heap.size + 1 < w1.heap.size := by have := Grow.size g1; simp at this; omega
  have G1 := Lib.hid ((((Grow.refl w).alloc _).alloc _).trans g1)
  clear b1 b2 g1
  go_wp2_with fail
  refine (F2.out _ G1.out).mono ?_
  rintro e w2 ⟨rfl, g2⟩
  have e3 := (Below.cell g2 (p := ⟨w.heap.size, 3, none⟩) (by simp only; omega)).trans c3
  have f3 := (Below.cell g2 (p := ⟨w.heap.size + 1, 3, none⟩) (by simp only; omega)).trans d3
  have G2 := Lib.hid (G1.out.trans g2)
  clear g2
  go_wp2
  go_ret
  exact ⟨rfl, G2.out⟩
end Go.Proofs.Ytfldpaceebemhaa
