/-
  The walk of New.
-/
import Derived.Test.YticpldjcmhpjoaaV6
namespace Go.Proofs.Yticpldjcmhpjoaa
open Go.RowKit
set_option linter.unusedVariables false
set_option linter.unusedSimpArgs false

theorem new_bad (room : Int) (hr : room < 0 ∨ 1073741824 < room) (w : World) : Calls Try.prog 8 #[.int .i64 room] w (OnlyP (.tuple #[.pointer none, .int .i64 1]) w) := by
  by_cases h1 : room < 0
  · go_enter Try.func8, Try.ntmps8
    go_wp2
    refine bodyPost_ret (v := .tuple #[.pointer none, .int .i64 1]) (by simp [results, Try.results8, go_sem]) rfl ?_
    exact ⟨rfl, Below.refl _ _⟩
  · have h2 : 1073741824 < room := by omega
    go_enter Try.func8, Try.ntmps8
    go_wp2
    refine bodyPost_ret (v := .tuple #[.pointer none, .int .i64 1]) (by simp [results, Try.results8, go_sem]) rfl ?_
    exact ⟨rfl, Below.refl _ _⟩
/-- the world behind New -/
def newW (room : Int) (w : World) : World := (((w.alloc (.map #[] 0)).alloc (.cells #[.slice none 0 0, .map (some w.heap.size)] 59)).alloc (.map #[] 0)).alloc (.cells #[.pointer (some ⟨w.heap.size + 1, 0, none⟩), .int .i64 room, .map (some (w.heap.size + 2))] 61)
theorem new_any (room : Int) (h0 : 0 ≤ room) (h1 : room ≤ 1073741824) (w : World) : Calls Try.prog 8 #[.int .i64 room] w fun e w' => e = .returned (.tuple #[.pointer (some ⟨w.heap.size + 3, 0, none⟩), .int .i64 0]) ∧ w' = newW room w := by
  have hmm := @run_makeMap Try.prog
  go_enter Try.func8, Try.ntmps8
  go_wp2
  refine bodyPost_ret (v := .tuple #[.pointer (some ⟨w.heap.size + 3, 0, none⟩), .int .i64 0]) (by simp [results, Try.results8, go_sem]) rfl ?_
  exact ⟨rfl, rfl⟩
end Go.Proofs.Yticpldjcmhpjoaa
