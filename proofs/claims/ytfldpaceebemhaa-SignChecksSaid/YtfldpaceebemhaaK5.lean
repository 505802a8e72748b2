/-
  The walks of SignSorts and SignChecks.
-/
import Derived.Test.YtfldpaceebemhaaK4
namespace Go.Proofs.Ytfldpaceebemhaa
open Go.RowKit

set_option maxHeartbeats 1000000 in
theorem sorts_any (f : Nat) (kd : Int) (tx : ByteArray) (n : Int) (a : Option Addr) (l c : Nat) (srt : Int) (w : World) (ht : tx.size ≤ maxLen) (hk : KidsOk f w a l) :
    Calls Try.prog 3 #[.agg #[.int .i64 kd, .string tx, .int .i64 n, .slice a l c], .int .i64 srt] w fun e w' => e = .returned (.bool true) ∧ Grow w w' := by
  obtain ⟨b, hb⟩ : ∃ b, b = sortB kd tx n srt := ⟨_, rfl⟩
  have F8 : Hid (∀ W, Calls Try.prog 8 #[.agg #[.int .i64 kd, .string tx, .int .i64 n, .slice a l c], .int .i64 srt] W fun e w' => e = .returned (.bool b) ∧ Below W.heap.size W w') := Lib.hid (fun W => by rw [hb]; exact sort8_any kd n tx a l c srt W ht)
  have F9 : Hid (∀ W, Calls Try.prog 9 #[.agg #[.int .i64 kd, .string tx, .int .i64 n, .slice a l c], .int .i64 srt] W fun e w' => e = .returned (.bool b) ∧ Below W.heap.size W w') := Lib.hid (fun W => by rw [hb]; exact sort9_any kd n tx a l c srt W ht)
  have F10 : Hid (∀ W, Calls Try.prog 10 #[] W fun e w' => e = .returned (.bool true) ∧ Below W.heap.size W w') := Lib.hid (fun W => known_any W)
  have HH := Lib.hid (fun left => heavy_any f kd tx n a l c left (w.alloc (.cells #[.int .i64 kd, .string tx, .int .i64 n, .slice a l c] 24)) ht (hk.grow ((Grow.refl _).alloc _)))
  clear hb hk
  go_enter Try.func3, Try.ntmps3
  go_wp2_with fail
  refine (HH.out _).mono ?_
  rintro e w1 ⟨x, rfl, g1⟩
  have hn : w1.heap[w.heap.size]? = some (.cells #[.int .i64 kd, .string tx, .int .i64 n, .slice a l c] 24 (0, 0)) :=
    (Below.block g1 _ (by simp)).trans (heap_alloc_new w (.cells #[.int .i64 kd, .string tx, .int .i64 n, .slice a l c] 24))
  have hz : w.heap.size < w1.heap.size := by have := Grow.size g1; simp at this; omega
  have G1 := Lib.hid (((Grow.refl w).alloc _).trans g1)
  have b0 := cell_blk hn 0
  have b1 := cell_blk hn 1
  have b2 := cell_blk hn 2
  have b3 := cell_blk hn 3
  simp at b0 b1 b2 b3
  clear hn g1
  by_cases hx : x < 0
  · go_wp2
    go_ret
    exact ⟨rfl, G1.out⟩
  · go_wp2
    refine wp_region_beyond w1.heap.size (by kernel_rfl) (by kernel_rfl) ?_
    have y0 : ∀ y : Beyond w1.heap.size w1, y.w.cell? ⟨w.heap.size, 0, none⟩ = some (.int .i64 kd) := fun y => (y.h.cell (p := ⟨_, 0, none⟩) hz).trans b0
    have y1 : ∀ y : Beyond w1.heap.size w1, y.w.cell? ⟨w.heap.size, 1, none⟩ = some (.string tx) := fun y => (y.h.cell (p := ⟨_, 1, none⟩) hz).trans b1
    have y2 : ∀ y : Beyond w1.heap.size w1, y.w.cell? ⟨w.heap.size, 2, none⟩ = some (.int .i64 n) := fun y => (y.h.cell (p := ⟨_, 2, none⟩) hz).trans b2
    have y3 : ∀ y : Beyond w1.heap.size w1, y.w.cell? ⟨w.heap.size, 3, none⟩ = some (.slice a l c) := fun y => (y.h.cell (p := ⟨_, 3, none⟩) hz).trans b3
    clear b0 b1 b2 b3
    repeat (go_big_quiet_step ((first
      | (go_at_call 8; exact Calls.beyond (Nat.le_refl _) (F8.out _))
      | (go_at_call 9; exact Calls.beyond (Nat.le_refl _) (F9.out _))
      | (go_at_call 10; exact Calls.beyond (Nat.le_refl _) (F10.out _)))))
    refine wpQuiet_nil ?_
    rintro w3 ⟨⟨_, hb3⟩, rfl⟩
    go_wp2
    go_ret
    exact ⟨rfl, G1.out.trans hb3⟩
set_option maxHeartbeats 1000000 in
theorem checks_any (f : Nat) (kd : Int) (tx : ByteArray) (n : Int) (a : Option Addr) (l c : Nat) (w : World) (ht : tx.size ≤ maxLen) (hk : KidsOk f w a l) :
    Calls Try.prog 4 #[.agg #[.int .i64 kd, .string tx, .int .i64 n, .slice a l c]] w fun e w' => e = .returned (.bool true) ∧ Grow w w' := by
  obtain ⟨E, hE⟩ := check_alike f kd tx n a l c w ht hk
  have F10 : Hid (∀ W, Calls Try.prog 10 #[] W fun e w' => e = .returned (.bool true) ∧ Below W.heap.size W w') := Lib.hid (fun W => known_any W)
  have HH := Lib.hid (fun left => heavy_any f kd tx n a l c left (w.alloc (.cells #[.int .i64 kd, .string tx, .int .i64 n, .slice a l c] 24)) ht (hk.grow ((Grow.refl _).alloc _)))
  have HE := Lib.hid hE
  clear hE hk
  go_enter Try.func4, Try.ntmps4
  go_wp2_with fail
  refine (HH.out _).mono ?_
  rintro e w1 ⟨x, rfl, g1⟩
  have hn : w1.heap[w.heap.size]? = some (.cells #[.int .i64 kd, .string tx, .int .i64 n, .slice a l c] 24 (0, 0)) :=
    (Below.block g1 _ (by simp)).trans (heap_alloc_new w (.cells #[.int .i64 kd, .string tx, .int .i64 n, .slice a l c] 24))
  have hz : w.heap.size < w1.heap.size := by have := Grow.size g1; simp at this; omega
  have G1 := Lib.hid (((Grow.refl w).alloc _).trans g1)
  have b0 := cell_blk hn 0
  have b1 := cell_blk hn 1
  have b2 := cell_blk hn 2
  have b3 := cell_blk hn 3
  simp at b0 b1 b2 b3
  clear hn g1
  by_cases hx : x < 0
  · go_wp2
    go_ret
    exact ⟨rfl, G1.out⟩
  · go_wp2
    refine wp_region_beyond w1.heap.size (by kernel_rfl) (by kernel_rfl) ?_
    have y0 : ∀ y : Beyond w1.heap.size w1, y.w.cell? ⟨w.heap.size, 0, none⟩ = some (.int .i64 kd) := fun y => (y.h.cell (p := ⟨_, 0, none⟩) hz).trans b0
    have y1 : ∀ y : Beyond w1.heap.size w1, y.w.cell? ⟨w.heap.size, 1, none⟩ = some (.string tx) := fun y => (y.h.cell (p := ⟨_, 1, none⟩) hz).trans b1
    have y2 : ∀ y : Beyond w1.heap.size w1, y.w.cell? ⟨w.heap.size, 2, none⟩ = some (.int .i64 n) := fun y => (y.h.cell (p := ⟨_, 2, none⟩) hz).trans b2
    have y3 : ∀ y : Beyond w1.heap.size w1, y.w.cell? ⟨w.heap.size, 3, none⟩ = some (.slice a l c) := fun y => (y.h.cell (p := ⟨_, 3, none⟩) hz).trans b3
    have F11 : Hid (∀ y : Beyond w1.heap.size w1, Calls Try.prog 11 #[.agg #[.int .i64 kd, .string tx, .int .i64 n, .slice a l c]] y.w fun e w' => e = .returned (.int .i64 E) ∧ Below y.w.heap.size y.w w') := Lib.hid (fun y => (HE.out _ (G1.out.trans y.h)).1)
    have F12 : Hid (∀ y : Beyond w1.heap.size w1, Calls Try.prog 12 #[.agg #[.int .i64 kd, .string tx, .int .i64 n, .slice a l c]] y.w fun e w' => e = .returned (.int .i64 E) ∧ Below y.w.heap.size y.w w') := Lib.hid (fun y => (HE.out _ (G1.out.trans y.h)).2)
    clear b0 b1 b2 b3
    repeat (go_big_quiet_step ((first
      | (go_at_call 11; exact Calls.beyond (Nat.le_refl _) (F11.out _))
      | (go_at_call 12; exact Calls.beyond (Nat.le_refl _) (F12.out _))
      | (go_at_call 10; exact Calls.beyond (Nat.le_refl _) (F10.out _)))))
    refine wpQuiet_nil ?_
    rintro w3 ⟨⟨_, hb3⟩, rfl⟩
    go_wp2
    go_ret
    exact ⟨rfl, G1.out.trans hb3⟩
end Go.Proofs.Ytfldpaceebemhaa
