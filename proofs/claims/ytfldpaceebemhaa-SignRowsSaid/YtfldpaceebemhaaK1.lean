/-
  The sort of an argument's place, of both; what a node's kids are in memory; what Check answers.
-/
import Derived.Test.YtfldpaceebemhaaO1
namespace Go.Proofs.Ytfldpaceebemhaa
open Go.RowKit

/-- the sort asked at a place -/
def sortAt (d : SigD) (i : Nat) : Int := match d.need[i]? with
  | some x => x
  | none => match d.may[i - d.need.length]? with
    | some x => x
    | none => d.rest
theorem IntsIn.open' {xs : List Int} {v : Value} {w : World} (h : IntsIn xs v w) : xs.length ≤ maxLen ∧ ∃ a z, v = .slice a xs.length z ∧ ∀ i x, xs[i]? = some x → ∃ g, a = some ⟨g, 0, none⟩ ∧ g < w.heap.size ∧ w.cell? ⟨g, i, none⟩ = some (.int .i64 x) := by
  rcases h.2 with ⟨h1, h2⟩ | ⟨g, cap, cur, h1, h3, h4, h5, h6, _⟩
  · have h0' : xs = [] := by simpa using h2
    subst h0'
    exact ⟨by simp, none, 0, h1, fun i x hx => by simp at hx⟩
  · refine ⟨by omega, _, _, h1, fun i x hx => ⟨g, rfl, ?_, ?_⟩⟩
    · subst h1
      exact (h.lt g rfl).2
    · subst h1
      have hi : i < xs.length := by
        rcases Nat.lt_or_ge i xs.length with h1 | h1
        · exact h1
        · rw [List.getElem?_eq_none h1] at hx; cases hx
      have := World.ownsRow.cellAt h i (by omega)
      rw [this, List.getElem?_map, hx]
      rfl
set_option maxHeartbeats 1000000 in
theorem sort22_any (d : SigD) (i : Nat) (nv mv : Value) (w : World) (h1 : IntsIn d.need nv w) (h2 : IntsIn d.may mv w) (hl1 : d.need.length ≤ 100) (hl2 : d.may.length ≤ 100) (hi : i ≤ maxLen) :
    Calls Try.prog 22 #[.agg #[.string d.name, nv, mv, .int .i64 d.rest], .int .i64 i] w fun e w' => e = .returned (.int .i64 (sortAt d i)) ∧ Grow w w' := by
  obtain ⟨-, a1, z1, rfl, c1⟩ := h1.open'
  obtain ⟨-, a2, z2, rfl, c2⟩ := h2.open'
  obtain ⟨nm, need, may, rest⟩ := d
  simp only at c1 c2 hl1 hl2 ⊢
  obtain ⟨n, hn⟩ : ∃ n, n = need.length := ⟨_, rfl⟩
  obtain ⟨m, hm⟩ : ∃ m, m = may.length := ⟨_, rfl⟩
  rw [← hn] at hl1 ⊢
  rw [← hm] at hl2 ⊢
  unfold maxLen at hi
  by_cases h : i < n
  · obtain ⟨x, hx⟩ : ∃ x, need[i]? = some x := ⟨_, List.getElem?_eq_getElem (by omega)⟩
    have hs : sortAt ⟨nm, need, may, rest⟩ i = x := by simp [sortAt, hx]
    rw [hs]
    obtain ⟨g, rfl, hg, hc⟩ := c1 i x hx
    have k1 : (i : Int) < (n : Int) := by omega
    have k0 : (0 : Int) ≤ (i : Int) := by omega
    clear h1 h2 c1 c2 hn hm hx hs
    go_enter Try.func22, Try.ntmps22
    go_wp2
    go_ret
    exact ⟨rfl, (Grow.refl _).alloc _⟩
  · have hx : need[i]? = none := List.getElem?_eq_none (by omega)
    have k1 : ¬ (i : Int) < (n : Int) := by omega
    have u1 : IntKind.i64.wrap ((i : Int) - n) = (i : Int) - n := IntWalk.i64_in _ (by omega)
    by_cases h' : i - n < m
    · obtain ⟨x, hy⟩ : ∃ x, may[i - n]? = some x := ⟨_, List.getElem?_eq_getElem (by omega)⟩
      have hs : sortAt ⟨nm, need, may, rest⟩ i = x := by simp [sortAt, hx, ← hn, hy]
      rw [hs]
      obtain ⟨g, rfl, hg, hc⟩ := c2 _ x hy
      have k2 : (i : Int) - n < (m : Int) := by omega
      have k3 : (0 : Int) ≤ (i : Int) - n := by omega
      have k4 : ((i : Int) - n).toNat = i - n := by omega
      clear h1 h2 c1 c2 hn hm hx hs hy
      go_enter Try.func22, Try.ntmps22
      go_wp2
      go_ret
      exact ⟨rfl, (Grow.refl _).alloc _⟩
    · have hy : may[i - n]? = none := List.getElem?_eq_none (by omega)
      have hs : sortAt ⟨nm, need, may, rest⟩ i = rest := by simp [sortAt, hx, ← hn, hy]
      rw [hs]
      have k2 : ¬ (i : Int) - n < (m : Int) := by omega
      clear h1 h2 c1 c2 hn hm hx hs hy
      go_enter Try.func22, Try.ntmps22
      go_wp2
      go_ret
      exact ⟨rfl, (Grow.refl _).alloc _⟩
set_option maxHeartbeats 1000000 in
theorem sort23_any (d : SigD) (i : Nat) (nv mv : Value) (w : World) (h1 : IntsIn d.need nv w) (h2 : IntsIn d.may mv w) (hl1 : d.need.length ≤ 100) (hl2 : d.may.length ≤ 100) (hi : i ≤ maxLen) :
    Calls Try.prog 23 #[.agg #[.string d.name, nv, mv, .int .i64 d.rest], .int .i64 i] w fun e w' => e = .returned (.int .i64 (sortAt d i)) ∧ Grow w w' := by
  obtain ⟨-, a1, z1, rfl, c1⟩ := h1.open'
  obtain ⟨-, a2, z2, rfl, c2⟩ := h2.open'
  obtain ⟨nm, need, may, rest⟩ := d
  simp only at c1 c2 hl1 hl2 ⊢
  obtain ⟨n, hn⟩ : ∃ n, n = need.length := ⟨_, rfl⟩
  obtain ⟨m, hm⟩ : ∃ m, m = may.length := ⟨_, rfl⟩
  rw [← hn] at hl1 ⊢
  rw [← hm] at hl2 ⊢
  unfold maxLen at hi
  by_cases h : i < n
  · obtain ⟨x, hx⟩ : ∃ x, need[i]? = some x := ⟨_, List.getElem?_eq_getElem (by omega)⟩
    have hs : sortAt ⟨nm, need, may, rest⟩ i = x := by simp [sortAt, hx]
    rw [hs]
    obtain ⟨g, rfl, hg, hc⟩ := c1 i x hx
    have k1 : (i : Int) < (n : Int) := by omega
    have k0 : (0 : Int) ≤ (i : Int) := by omega
    clear h1 h2 c1 c2 hn hm hx hs
    go_enter Try.func23, Try.ntmps23
    go_wp2
    go_ret
    exact ⟨rfl, (Grow.refl _).alloc _⟩
  · have hx : need[i]? = none := List.getElem?_eq_none (by omega)
    have k1 : ¬ (i : Int) < (n : Int) := by omega
    have u1 : IntKind.i64.wrap ((i : Int) - n) = (i : Int) - n := IntWalk.i64_in _ (by omega)
    have u2 : IntKind.i64.wrap ((n : Int) + m) = (n : Int) + m := IntWalk.i64_in _ (by omega)
    by_cases h' : i - n < m
    · obtain ⟨x, hy⟩ : ∃ x, may[i - n]? = some x := ⟨_, List.getElem?_eq_getElem (by omega)⟩
      have hs : sortAt ⟨nm, need, may, rest⟩ i = x := by simp [sortAt, hx, ← hn, hy]
      rw [hs]
      obtain ⟨g, rfl, hg, hc⟩ := c2 _ x hy
      have k2 : (i : Int) < (n : Int) + m := by omega
      have k3 : (0 : Int) ≤ (i : Int) - n := by omega
      have k4 : ((i : Int) - n).toNat = i - n := by omega
      have k5 : (i : Int) - n < (m : Int) := by omega
      clear h1 h2 c1 c2 hn hm hx hs hy
      go_enter Try.func23, Try.ntmps23
      go_wp2
      go_ret
      exact ⟨rfl, (Grow.refl _).alloc _⟩
    · have hy : may[i - n]? = none := List.getElem?_eq_none (by omega)
      have hs : sortAt ⟨nm, need, may, rest⟩ i = rest := by simp [sortAt, hx, ← hn, hy]
      rw [hs]
      have k2 : ¬ (i : Int) < (n : Int) + m := by omega
      clear h1 h2 c1 c2 hn hm hx hs hy
      go_enter Try.func23, Try.ntmps23
      go_wp2
      go_ret
      exact ⟨rfl, (Grow.refl _).alloc _⟩
end Go.Proofs.Ytfldpaceebemhaa
