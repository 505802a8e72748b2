/-
  The walks of span.signed, span.Interval and graticuleref16.Interval.
-/
import Derived.Test.YtfldpaceebemhaaL4
import Derived.IntWalk
namespace Go.Proofs.Ytfldpaceebemhaa
open Go.RowKit

theorem signed_nil (s : ByteArray) (w : World) (h : s.size = 0) : Calls Try.prog 30 #[.string s] w fun e w' => e = .returned (.bool false) ∧ w = w' := by
  have h0 : s.toList.isEmpty = true := by have := emptyB s; rw [show decide (0 < s.size) = false from by simp [h]] at this; simpa using this
  have hs : ¬ 0 < s.size := by omega
  clear h
  go_enter Try.func30, Try.ntmps30
  go_wp2
  go_ret
  exact ⟨rfl, rfl⟩
theorem signed_any (s : ByteArray) (w : World) (h : 0 < s.size) (c : Nat) (hc : by_ s 0 = c) : Calls Try.prog 30 #[.string s] w fun e w' => e = .returned (.bool (c == 45 || c == 43)) ∧ w = w' := by
  have h0 : s.toList.isEmpty = false := by have := emptyB s; rw [show decide (0 < s.size) = true from by simp [h]] at this; simpa using this
  have hc' : s[0].toNat = c := by rw [← hc, by_at s 0 h]
  clear hc
  by_cases e1 : c = 45
  · have t1 : ((c : Int) == 45) = true := by simp; omega
    rw [show (c == 45 || c == 43) = true from by simp [e1]]
    clear e1
    go_enter Try.func30, Try.ntmps30
    go_wp2
    go_ret
    exact ⟨rfl, rfl⟩
  · have t1 : ((c : Int) == 45) = false := by simp; omega
    by_cases e2 : c = 43
    · have t2 : ((c : Int) == 43) = true := by simp; omega
      rw [show (c == 45 || c == 43) = true from by simp [e2]]
      clear e1 e2
      go_enter Try.func30, Try.ntmps30
      go_wp2
      go_ret
      exact ⟨rfl, rfl⟩
    · have t2 : ((c : Int) == 43) = false := by simp; omega
      rw [show (c == 45 || c == 43) = false from by simp [e1, e2]]
      clear e1 e2
      go_enter Try.func30, Try.ntmps30
      go_wp2
      go_ret
      exact ⟨rfl, rfl⟩

theorem DigN.ex (s : ByteArray) : ∃ n, DigN s n := by
  have key : ∀ m, m ≤ s.size → (∀ j, j < m → digB (by_ s j) = true) ∨ ∃ n, DigN s n := by
    intro m
    induction m with
    | zero => intro _; exact .inl (fun j hj => absurd hj (by omega))
    | succ m ih =>
      intro hm
      rcases ih (by omega) with h | h
      · cases hd : digB (by_ s m) with
        | true => exact .inl (fun j hj => by
            by_cases e : j = m
            · rw [e]; exact hd
            · exact h j (by omega))
        | false => exact .inr ⟨m, by omega, h, fun _ => hd⟩
      · exact .inr h
  rcases key s.size (Nat.le_refl _) with h | h
  · exact ⟨s.size, Nat.le_refl _, h, fun h => absurd h (by omega)⟩
  · exact h
theorem DigN.all {s : ByteArray} {n : Nat} (h : DigN s n) : AllD (s.extract 0 n) := fun j hj => by
  rw [ByteArray.size_extract] at hj
  rw [by_ext s 0 n j (by omega), Nat.zero_add]
  exact h.2.1 j (by omega)

/-- an interval: the sign, the number and whether it is one, the unit -/
def ivR (sg v : Int) (b : Bool) (u : Int) : Int × Bool := if b = false ∨ u = 0 ∨ 4294967295 / u < v then (0, false) else (wrap64 (wrap64 (sg * v) * u), true)
theorem ivR_def (sg v : Int) (b : Bool) (u : Int) : ivR sg v b u = if b = false ∨ u = 0 ∨ 4294967295 / u < v then (0, false) else (wrap64 (wrap64 (sg * v) * u), true) := rfl
/-- the interval of a text behind its sign -/
def ivC (sg : Int) (t : ByteArray) (n : Nat) : Int × Bool := ivR sg (whP (t.extract 0 n)).1 (whP (t.extract 0 n)).2 (unitF (t.extract n t.size))
theorem whP_bd (s : ByteArray) : 0 ≤ (whP s).1 ∧ (whP s).1 ≤ 4611686018427387904 := by
  unfold whP numP
  split
  · simp
  · split
    · simp
    · simp; omega
theorem whP_nil (t : ByteArray) : (whP (t.extract 0 0)).2 = false := by
  unfold whP
  rw [if_pos (by rw [ByteArray.size_extract]; omega)]
theorem ivR_good' {sg v u : Int} {b : Bool} {r : Int × Bool} (h : ¬ (b = false ∨ u = 0 ∨ 4294967295 / u < v)) (h1 : 0 ≤ v) (h2 : v ≤ 4611686018427387904) (hr : r = if b = false ∨ u = 0 ∨ 4294967295 / u < v then (0, false) else (wrap64 (wrap64 (sg * v) * u), true)) (hs : sg = 1 ∨ sg = -1 := by decide) : r = (wrap64 (sg * v * u), true) := by
  rw [hr, if_neg h]
  have : wrap64 (sg * v) = sg * v := by
    rcases hs with rfl | rfl
    · exact IntWalk.wrap64_in _ (by omega)
    · exact IntWalk.wrap64_in _ (by omega)
  rw [this]
theorem ivR_good {sg v u : Int} {r : Int × Bool} (h : ¬ u = 0) (h3 : ¬ 4294967295 / u < v) (h1 : 0 ≤ v) (h2 : v ≤ 4611686018427387904) (hr : r = if true = false ∨ u = 0 ∨ 4294967295 / u < v then (0, false) else (wrap64 (wrap64 (sg * v) * u), true)) (hs : sg = 1 ∨ sg = -1 := by decide) : r = (wrap64 (sg * v * u), true) :=
  ivR_good' (b := true) (by rintro (h4 | h4 | h4); exact absurd h4 (by decide); exact h h4; exact h3 h4) h1 h2 hr hs
end Go.Proofs.Ytfldpaceebemhaa
