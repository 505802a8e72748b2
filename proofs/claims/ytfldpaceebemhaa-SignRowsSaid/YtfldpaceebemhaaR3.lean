/-
  The walk of slices.Grow at a nil row of signatures.
-/
import Derived.Test.YtfldpaceebemhaaR2
import Derived.Lib.AppendZerosOnto
import Derived.Lib.Walk
import Derived.Lib.SliceRun
namespace Go.Proofs.Ytfldpaceebemhaa
open Go.RowKit

set_option maxHeartbeats 2000000 in
theorem grow_nil (n : Nat) (hn0 : 0 < n) (hn : n ≤ 1000) (w : World) :
    Calls Try.prog 50 #[.slice none 0 0, .int .i64 n] w fun e w' => ∃ v, e = .returned v ∧ SigsIn w.heap.size [] v w' ∧ Grow w w' := by
  obtain ⟨i0, hi0, hz0, hz1, hz2⟩ := info_parts Try.info34
  have h1 : ¬ ((n : Int) < 0) := by omega
  have h4 : (0 : Int) < (n : Int) := by omega
  have hold : (Builtin.firstCells i0.size 0 (.slice none 0 0)).run Try.prog w.drew = .ok ([] : List Value).toArray w.drew := run_firstCells_none w.drew i0.size 0 0 0
  have hrz : ∀ ty, (Builtin.append_ #[50, 3] ty #[.slice none 0 0, .int .i64 (n : Int)]).run Try.prog w =
      .ok (.slice (some ⟨w.heap.size, 0, none⟩) n (grownCap w n 0 34)) (w.drew.alloc (.cells (([] : List Value).toArray ++ Builtin.zeroCells (Value.agg #[.string ⟨#[]⟩, .slice none 0 0, .slice none 0 0, .int .i64 0]).cells n ++ Builtin.zeroCells (Value.agg #[.string ⟨#[]⟩, .slice none 0 0, .slice none 0 0, .int .i64 0]).cells (grownCap w n 0 34 - n)) 34)) := fun ty => by
    have h := Lib.run_append_grow_zeros w 50 3 ty 34 i0 _ .i64 .i64 Try.underlying50 Try.underlying3 hi0 hz0 none 0 0 [] hold n hn0 (by omega) (by omega) (by omega)
      (by rw [hz2]; omega)
      (by rw [Nat.zero_add]; exact growslice_fits (by omega) (by rw [hz2]; omega))
    rw [Nat.zero_add] at h
    exact h
  have hGn : n ≤ grownCap w n 0 34 := grownCap_ge w _ _ _
  obtain ⟨G, hG⟩ : ∃ G, G = grownCap w n 0 34 := ⟨_, rfl⟩
  rw [← hG] at hrz hGn
  have hG63 : G ≤ maxLen := by
    have := grownCap_le_maxLen w n 0 34 (by unfold maxLen; omega)
    rwa [← hG] at this
  have hG64 : G ≤ 9223372036854775807 := by unfold maxLen at hG63; omega
  have HR := Lib.hid hrz
  have H63 := Lib.hid hG63
  have HGN := Lib.hid hGn
  clear hold hG hi0 hz0 hz1 hz2 hrz hG63
  go_enter Try.func50, Try.ntmps50
  go_wp2_with (at_builtin; refine Lib.wpList_append_run _ rfl _ _ _ _ rfl _ _ rfl rfl _ _ (HR.out _) ?_)
  all_goals (go_ret; refine ⟨_, rfl, ⟨[], ?_, .nil⟩, (Grow.refl w).drew.alloc _⟩)
  refine ⟨rfl, .inr ⟨w.heap.size, G, _, rfl, Nat.le_refl _, heap_alloc_new w.drew _, Nat.zero_le _, H63.out, ?_, by simp⟩⟩
  have hc : (Value.agg #[.string ⟨#[]⟩, .slice none 0 0, .slice none 0 0, .int .i64 0]).cells.size = 4 := by rfl
  have hgn := HGN.out
  simp only [Array.size_append, size_zeroCells, hc]
  simp
  omega
end Go.Proofs.Ytfldpaceebemhaa
