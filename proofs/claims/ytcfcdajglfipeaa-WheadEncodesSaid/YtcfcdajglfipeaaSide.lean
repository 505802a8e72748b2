/-
  Archives side by side: the walks of side and fits.
-/
import Derived.Test.YtcfcdajglfipeaaRows
import Derived.Test.YtcfcdajglfipeaaBase
import Derived.Lib.Hide
namespace Go.Proofs.Ytcfcdajglfipeaa
open Go.RowKit

def I64 (t : Int) : Prop := -9223372036854775808 ≤ t ∧ t ≤ 9223372036854775807
def InR (p : Int × Int) : Prop := 1 ≤ p.1 ∧ p.1 ≤ 16777216 ∧ 1 ≤ p.2 ∧ p.2 ≤ 16777216
def sideB (p q : Int × Int) : Bool := decide (p.1 < q.1) && (q.1 % p.1 == 0) && decide (p.1 * p.2 < q.1 * q.2) && decide (q.1 / p.1 ≤ p.2)

theorem mul_in (s c : Int) (s1 : 1 ≤ s) (s2 : s ≤ 16777216) (c1 : 1 ≤ c) (c2 : c ≤ 16777216) : 1 ≤ s * c ∧ s * c ≤ 281474976710656 := by
  have h1 : s * 1 ≤ s * c := Int.mul_le_mul_of_nonneg_left c1 (by omega)
  have h2 : s * c ≤ 16777216 * 16777216 := Int.mul_le_mul s2 c2 (by omega) (by omega)
  omega

theorem side_any (p q : Int × Int) (hp : InR p) (hq : InR q) (w : World) :
    Calls Try.prog 20 #[.agg #[.int .i64 p.1, .int .i64 p.2], .agg #[.int .i64 q.1, .int .i64 q.2]] w fun e w' => e = .returned (.bool (sideB p q)) ∧ Below w.heap.size w w' := by
  obtain ⟨a, b⟩ := p
  obtain ⟨c, d⟩ := q
  obtain ⟨p1, p2, p3, p4⟩ := hp
  obtain ⟨q1, q2, q3, q4⟩ := hq
  obtain ⟨m1, m2⟩ := mul_in a b p1 p2 p3 p4
  obtain ⟨m3, m4⟩ := mul_in c d q1 q2 q3 q4
  simp only at p1 p2 p3 p4 q1 q2 q3 q4 m1 m2 m3 m4 ⊢
  have r1 : 0 ≤ c % a := Int.emod_nonneg _ (by omega)
  have r2 : c % a < a := Int.emod_lt_of_pos _ (by omega)
  have r3 : 0 ≤ c / a := Int.ediv_nonneg (by omega) (by omega)
  have r4 : c / a ≤ c := Int.ediv_le_self _ (by omega)
  by_cases h1 : a < c
  rotate_left
  · have hf : sideB (a, b) (c, d) = false := by simp [sideB, h1]
    have H := Lib.hid hf
    clear hf
    have h1' : decide (a < c) = false := by simpa using h1
    go_enter Try.func20, Try.ntmps20
    go_wp2
    go_quiet (fail)
    go_wp2
    go_ret
    exact ⟨by rw [H.out]; rfl, below_drewN (((Below.refl _ _).alloc (Nat.le_refl _) _).alloc (by simp) _) _⟩
  by_cases h2 : (c % a == 0) = true
  rotate_left
  · have hf : sideB (a, b) (c, d) = false := by simp [sideB, h2]
    have H := Lib.hid hf
    clear hf
    have h2' : (c % a == 0) = false := by simpa using h2
    go_enter Try.func20, Try.ntmps20
    go_wp2
    go_quiet (fail)
    go_wp2
    go_ret
    exact ⟨by rw [H.out]; rfl, below_drewN (((Below.refl _ _).alloc (Nat.le_refl _) _).alloc (by simp) _) _⟩
  by_cases h3 : a * b < c * d
  rotate_left
  · have hf : sideB (a, b) (c, d) = false := by simp [sideB, h3]
    have H := Lib.hid hf
    clear hf
    have h3' : decide (a * b < c * d) = false := by simpa using h3
    go_enter Try.func20, Try.ntmps20
    go_wp2
    go_quiet (fail)
    go_wp2
    go_ret
    exact ⟨by rw [H.out]; rfl, below_drewN (((Below.refl _ _).alloc (Nat.le_refl _) _).alloc (by simp) _) _⟩
  · have hf : sideB (a, b) (c, d) = decide (c / a ≤ b) := by
      have h2' : c % a = 0 := by simpa using h2
      simp [sideB, h1, h2', h3]
    have H := Lib.hid hf
    clear hf
    go_enter Try.func20, Try.ntmps20
    go_wp2
    go_quiet (fail)
    go_wp2
    go_ret
    exact ⟨by rw [H.out]; rfl, below_drewN (((Below.refl _ _).alloc (Nat.le_refl _) _).alloc (by simp) _) _⟩

theorem fits_any (p q : Int × Int) (hp : InR p) (hq : InR q) (w : World) :
    Calls Try.prog 24 #[.agg #[.int .i64 p.1, .int .i64 p.2], .agg #[.int .i64 q.1, .int .i64 q.2]] w fun e w' => e = .returned (.bool (sideB p q)) ∧ Below w.heap.size w w' := by
  obtain ⟨a, b⟩ := p
  obtain ⟨c, d⟩ := q
  obtain ⟨p1, p2, p3, p4⟩ := hp
  obtain ⟨q1, q2, q3, q4⟩ := hq
  obtain ⟨m1, m2⟩ := mul_in a b p1 p2 p3 p4
  obtain ⟨m3, m4⟩ := mul_in c d q1 q2 q3 q4
  simp only at p1 p2 p3 p4 q1 q2 q3 q4 m1 m2 m3 m4 ⊢
  have r1 : 0 ≤ c % a := Int.emod_nonneg _ (by omega)
  have r2 : c % a < a := Int.emod_lt_of_pos _ (by omega)
  have r3 : 0 ≤ c / a := Int.ediv_nonneg (by omega) (by omega)
  have r4 : c / a ≤ c := Int.ediv_le_self _ (by omega)
  by_cases h1 : a < c
  rotate_left
  · have hf : sideB (a, b) (c, d) = false := by simp [sideB, h1]
    have H := Lib.hid hf
    clear hf
    have h1' : decide (a < c) = false := by simpa using h1
    go_enter Try.func24, Try.ntmps24
    go_wp2
    go_quiet (fail)
    go_wp2
    go_ret
    exact ⟨by rw [H.out]; rfl, below_drewN (((Below.refl _ _).alloc (Nat.le_refl _) _).alloc (by simp) _) _⟩
  by_cases h2 : (c % a == 0) = true
  rotate_left
  · have hf : sideB (a, b) (c, d) = false := by simp [sideB, h2]
    have H := Lib.hid hf
    clear hf
    have h2' : (c % a == 0) = false := by simpa using h2
    go_enter Try.func24, Try.ntmps24
    go_wp2
    go_quiet (fail)
    go_wp2
    go_ret
    exact ⟨by rw [H.out]; rfl, below_drewN (((Below.refl _ _).alloc (Nat.le_refl _) _).alloc (by simp) _) _⟩
  by_cases h3 : a * b < c * d
  rotate_left
  · have hf : sideB (a, b) (c, d) = false := by simp [sideB, h3]
    have H := Lib.hid hf
    clear hf
    have h3' : decide (a * b < c * d) = false := by simpa using h3
    go_enter Try.func24, Try.ntmps24
    go_wp2
    go_quiet (fail)
    go_wp2
    go_ret
    exact ⟨by rw [H.out]; rfl, below_drewN (((Below.refl _ _).alloc (Nat.le_refl _) _).alloc (by simp) _) _⟩
  · have hf : sideB (a, b) (c, d) = decide (c / a ≤ b) := by
      have h2' : c % a = 0 := by simpa using h2
      simp [sideB, h1, h2', h3]
    have H := Lib.hid hf
    clear hf
    go_enter Try.func24, Try.ntmps24
    go_wp2
    go_quiet (fail)
    go_wp2
    go_ret
    exact ⟨by rw [H.out]; rfl, below_drewN (((Below.refl _ _).alloc (Nat.le_refl _) _).alloc (by simp) _) _⟩
end Go.Proofs.Ytcfcdajglfipeaa
