/-
  The walks of Has (rex, graticuleref11).
-/
import Derived.Test.YtldcbkememonaaaS1
namespace Go.Proofs.Ytldcbkememonaaa
open Go.RowKit
set_option linter.unusedVariables false
set_option linter.unusedSimpArgs false

/-- is the byte in one of the pairs' runs -/
def hasF (ps : ByteArray) (c : Nat) : Bool := (List.range (ps.size / 2)).any fun j => decide (by_ ps (2 * j) ≤ c) && decide (c ≤ by_ ps (2 * j + 1))
theorem any_snoc (p : Nat → Bool) (j : Nat) : (List.range (j + 1)).any p = ((List.range j).any p || p j) := by
  rw [List.range_succ, List.any_append]; simp
theorem any_mem (p : Nat → Bool) (j n : Nat) (h : p j = true) (hj : j < n) : (List.range n).any p = true := by
  rw [List.any_eq_true]; exact ⟨j, by simpa using hj, h⟩

set_option maxHeartbeats 1000000 in
theorem has41_any (ps : ByteArray) (c : Nat) (hc : c < 256) (hn : ps.size ≤ 100000) (w : World) : Calls Try.prog 41 #[.string ps, .int .u8 c] w fun e w' => e = .returned (.bool (hasF ps c)) ∧ w' = w := by
  obtain ⟨R, hR⟩ : ∃ R, R = hasF ps c := ⟨_, rfl⟩
  rw [← hR]
  have HR := Lib.hid hR
  clear hR
  have c0 : (0 : Int) ≤ (c : Int) := by omega
  go_enter Try.func41, Try.ntmps41
  go_wp2
  go_loopw [5] (fun t wr => ∃ (j i : Nat), Hid (i = 2 * j) ∧ i ≤ ps.size ∧ t = .int .i64 i ∧ wr = w ∧ Hid ((List.range j).any (fun j => decide (by_ ps (2 * j) ≤ c) && decide (c ≤ by_ ps (2 * j + 1))) = false)) (fun t _ => ps.size - (intOf t).toNat)
  case atStart => exact ⟨0, 0, Lib.hid rfl, by omega, rfl, rfl, Lib.hid rfl⟩
  case round =>
    obtain ⟨j, i, HI, hi, rfl, rfl, HA⟩ := hrel
    have k0 : (0 : Int) ≤ (i : Int) := by omega
    have k5 : (i : Int) ≤ 100000 := by omega
    by_cases hlt : i + 1 < ps.size
    · have k1 : (i : Int) + 1 < (ps.size : Int) := by omega
      have k2 : (i : Int) < (ps.size : Int) := by omega
      have k3 : i < ps.size := by omega
      obtain ⟨x, hx⟩ : ∃ x, x = by_ ps i := ⟨_, rfl⟩
      obtain ⟨y, hy⟩ : ∃ y, y = by_ ps (i + 1) := ⟨_, rfl⟩
      have ex : ps[i].toNat = x := by rw [hx, by_at ps i k3]
      have ey : ps[i + 1].toNat = y := by rw [hy, by_at ps (i + 1) hlt]
      have HX := Lib.hid hx
      have HY := Lib.hid hy
      clear hx hy
      by_cases h1 : x ≤ c
      · by_cases h2 : c ≤ y
        · have q1 : (x : Int) ≤ (c : Int) := by omega
          have q2 : (c : Int) ≤ (y : Int) := by omega
          go_wp2
          go_ret
          refine ⟨ret_bool ?_, rfl⟩
          rw [HR.out]
          unfold hasF
          refine (any_mem _ j _ ?_ (by have := HI.out; omega)).symm
          simp only [← HI.out]
          rw [← HX.out, ← HY.out]
          simp [h1, h2]
        · have q1 : (x : Int) ≤ (c : Int) := by omega
          have q2 : ¬ (c : Int) ≤ (y : Int) := by omega
          go_wp2
          go_roundw
          case rel => exact ⟨j + 1, i + 2, Lib.hid (by have := HI.out; omega), by omega, by go_num, trivial, Lib.hid (by rw [any_snoc, HA.out, ← HI.out, ← HX.out, ← HY.out]; simp [h2])⟩
          case measure => simp [intOf]; omega
      · have q1 : ¬ (x : Int) ≤ (c : Int) := by omega
        go_wp2
        go_roundw
        case rel => exact ⟨j + 1, i + 2, Lib.hid (by have := HI.out; omega), by omega, by go_num, trivial, Lib.hid (by rw [any_snoc, HA.out, ← HI.out, ← HX.out, ← HY.out]; simp [h1])⟩
        case measure => simp [intOf]; omega
    · have k1 : ¬ (i : Int) + 1 < (ps.size : Int) := by omega
      go_wp2
      go_ret
      refine ⟨ret_bool ?_, rfl⟩
      rw [HR.out]
      unfold hasF
      rw [show ps.size / 2 = j by have := HI.out; omega]
      exact HA.out.symm

set_option maxHeartbeats 1000000 in
theorem has42_any (ps : ByteArray) (c : Nat) (hc : c < 256) (hn : ps.size ≤ 100000) (w : World) : Calls Try.prog 42 #[.string ps, .int .u8 c] w fun e w' => e = .returned (.bool (hasF ps c)) ∧ w' = w := by
  obtain ⟨R, hR⟩ : ∃ R, R = hasF ps c := ⟨_, rfl⟩
  rw [← hR]
  have HR := Lib.hid hR
  clear hR
  have c0 : (0 : Int) ≤ (c : Int) := by omega
  go_enter Try.func42, Try.ntmps42
  go_wp2
  go_loopw [5] (fun t wr => ∃ (j i : Nat), Hid (i = 2 * j) ∧ i ≤ ps.size ∧ t = .int .i64 i ∧ wr = w ∧ Hid ((List.range j).any (fun j => decide (by_ ps (2 * j) ≤ c) && decide (c ≤ by_ ps (2 * j + 1))) = false)) (fun t _ => ps.size - (intOf t).toNat)
  case atStart => exact ⟨0, 0, Lib.hid rfl, by omega, rfl, rfl, Lib.hid rfl⟩
  case round =>
    obtain ⟨j, i, HI, hi, rfl, rfl, HA⟩ := hrel
    have k0 : (0 : Int) ≤ (i : Int) := by omega
    have k5 : (i : Int) ≤ 100000 := by omega
    by_cases hlt : i + 1 < ps.size
    · have k1 : (i : Int) + 1 < (ps.size : Int) := by omega
      have k2 : (i : Int) < (ps.size : Int) := by omega
      have k3 : i < ps.size := by omega
      obtain ⟨x, hx⟩ : ∃ x, x = by_ ps i := ⟨_, rfl⟩
      obtain ⟨y, hy⟩ : ∃ y, y = by_ ps (i + 1) := ⟨_, rfl⟩
      have ex : ps[i].toNat = x := by rw [hx, by_at ps i k3]
      have ey : ps[i + 1].toNat = y := by rw [hy, by_at ps (i + 1) hlt]
      have HX := Lib.hid hx
      have HY := Lib.hid hy
      clear hx hy
      by_cases h1 : x ≤ c
      · by_cases h2 : c ≤ y
        · have q1 : (x : Int) ≤ (c : Int) := by omega
          have q2 : (c : Int) ≤ (y : Int) := by omega
          go_wp2
          go_ret
          refine ⟨ret_bool ?_, rfl⟩
          rw [HR.out]
          unfold hasF
          refine (any_mem _ j _ ?_ (by have := HI.out; omega)).symm
          simp only [← HI.out]
          rw [← HX.out, ← HY.out]
          simp [h1, h2]
        · have q1 : (x : Int) ≤ (c : Int) := by omega
          have q2 : ¬ (c : Int) ≤ (y : Int) := by omega
          go_wp2
          go_roundw
          case rel => exact ⟨j + 1, i + 2, Lib.hid (by have := HI.out; omega), by omega, by go_num, trivial, Lib.hid (by rw [any_snoc, HA.out, ← HI.out, ← HX.out, ← HY.out]; simp [h2])⟩
          case measure => simp [intOf]; omega
      · have q1 : ¬ (x : Int) ≤ (c : Int) := by omega
        go_wp2
        go_roundw
        case rel => exact ⟨j + 1, i + 2, Lib.hid (by have := HI.out; omega), by omega, by go_num, trivial, Lib.hid (by rw [any_snoc, HA.out, ← HI.out, ← HX.out, ← HY.out]; simp [h1])⟩
        case measure => simp [intOf]; omega
    · have k1 : ¬ (i : Int) + 1 < (ps.size : Int) := by omega
      go_wp2
      go_ret
      refine ⟨ret_bool ?_, rfl⟩
      rw [HR.out]
      unfold hasF
      rw [show ps.size / 2 = j by have := HI.out; omega]
      exact HA.out.symm
end Go.Proofs.Ytldcbkememonaaa
