/-
  The walk of SlotRounds.
-/
import Derived.Test.YtjgfhkgjaodjhaaWalkA
namespace Go.Proofs.Ytjgfhkgjaodjhaa
open Go.RowKit

theorem rounds_no (s c t p : Int) (hs : I64 s) (hc : I64 c) (ht : I64 t) (hp : I64 p) (hn : ¬ (1 ≤ s ∧ s ≤ 16777216 ∧ 1 ≤ c ∧ c ≤ 16777216 ∧ 0 ≤ t ∧ t ≤ 4294967295 ∧ 0 ≤ p ∧ p ≤ 4294967295)) (w : World) :
    Calls Try.prog 4 #[.agg #[.int .i64 s, .int .i64 c], .int .i64 t, .int .i64 p] w fun e w' => e = .returned (.bool true) ∧ Below w.heap.size w w' := by
  obtain ⟨t1, t2⟩ := ht
  obtain ⟨s1, s2⟩ := hs
  obtain ⟨c1, c2⟩ := hc
  obtain ⟨p1, p2⟩ := hp
  by_cases g1 : s < 1
  rotate_left
  by_cases g2 : 16777216 < s
  rotate_left
  by_cases g3 : c < 1
  rotate_left
  by_cases g4 : 16777216 < c
  rotate_left
  by_cases g5 : t < 0
  rotate_left
  by_cases g6 : 4294967295 < t
  rotate_left
  by_cases g7 : p < 0
  rotate_left
  by_cases g8 : 4294967295 < p
  rotate_left
  · exact absurd ⟨by omega, by omega, by omega, by omega, by omega, by omega, by omega, by omega⟩ hn
  all_goals
    clear hn
    go_enter Try.func4, Try.ntmps4
    go_wp2_with (first
      | (go_at_call 11; refine (known_any _).mono ?_; rintro e w1 ⟨rfl, hb⟩))
    go_ret
    exact ⟨rfl, ((Below.refl _ _).alloc (Nat.le_refl _) _).trans (hb.mono (by simp))⟩

theorem place_in (s c t : Int) (s1 : 1 ≤ s) (c1 : 1 ≤ c) (t1 : 0 ≤ t) : 0 ≤ placeS s c t ∧ placeS s c t < c := by
  simp only [placeS, show ¬ (s < 1 ∨ c < 1 ∨ t < 0) from by omega, if_false]
  exact ⟨Int.emod_nonneg _ (by omega), Int.emod_lt_of_pos _ (by omega)⟩

theorem align_in (s t : Int) (s1 : 1 ≤ s) (t1 : 0 ≤ t) : 0 ≤ alignS t s ∧ alignS t s ≤ t := by
  simp only [alignS, show ¬ (s < 1 ∨ t < 0) from by omega, if_false]
  have b1 : 0 ≤ t % s := Int.emod_nonneg _ (by omega)
  have b2 := emod_le t s t1 s1
  omega

theorem align_mul (s t : Int) (s1 : 1 ≤ s) (t1 : 0 ≤ t) : alignS t s = s * (t / s) := by
  simp only [alignS, show ¬ (s < 1 ∨ t < 0) from by omega, if_false]
  have h1 := Int.emod_add_mul_ediv t s
  omega

theorem tmod_zero (a b : Int) : (a.tmod b == 0) = decide (b ∣ a) := by
  rw [Bool.eq_iff_iff]; simp [Int.dvd_iff_tmod_eq_zero]

theorem same_round (s c t p : Int) (s1 : 1 ≤ s) (c1 : 1 ≤ c) (t1 : 0 ≤ t) (p1 : 0 ≤ p) : (placeS s c t == placeS s c p) = ((alignS t s - alignS p s).tmod (s * c) == 0) := by
  rw [tmod_zero, align_mul s t s1 t1, align_mul s p s1 p1, ← Int.mul_sub]
  simp only [placeS, show ¬ (s < 1 ∨ c < 1 ∨ t < 0) from by omega, show ¬ (s < 1 ∨ c < 1 ∨ p < 0) from by omega, if_false]
  rw [Bool.eq_iff_iff]
  simp only [beq_iff_eq, decide_eq_true_eq]
  rw [Int.mul_dvd_mul_iff_left (by omega), Int.emod_eq_emod_iff_emod_sub_eq_zero]
  exact Int.dvd_iff_emod_eq_zero.symm

theorem mul_in (s c : Int) (s1 : 1 ≤ s) (s2 : s ≤ 16777216) (c1 : 1 ≤ c) (c2 : c ≤ 16777216) : 1 ≤ s * c ∧ s * c ≤ 281474976710656 := by
  have h1 : s * 1 ≤ s * c := Int.mul_le_mul_of_nonneg_left c1 (by omega)
  have h2 : s * c ≤ 16777216 * 16777216 := Int.mul_le_mul s2 c2 (by omega) (by omega)
  omega

theorem rounds_yes (s c t p : Int) (s1 : 1 ≤ s) (s2 : s ≤ 16777216) (c1 : 1 ≤ c) (c2 : c ≤ 16777216) (t1 : 0 ≤ t) (t2 : t ≤ 4294967295) (p1 : 0 ≤ p) (p2 : p ≤ 4294967295) (w : World) :
    Calls Try.prog 4 #[.agg #[.int .i64 s, .int .i64 c], .int .i64 t, .int .i64 p] w fun e w' => e = .returned (.bool true) ∧ Below w.heap.size w w' := by
  have hr := same_round s c t p s1 c1 t1 p1
  obtain ⟨m1, m2⟩ := mul_in s c s1 s2 c1 c2
  obtain ⟨u1, u2⟩ := align_in s t s1 t1
  obtain ⟨v1, v2⟩ := align_in s p s1 p1
  obtain ⟨x1, x2⟩ := place_in s c t s1 c1 t1
  cases hb1 : (placeS s c t == placeS s c p)
  all_goals
    rw [hb1] at hr
    replace hr := hr.symm
    have HR := Lib.hid hr
    have HB := Lib.hid hb1
    clear hr hb1
    go_enter Try.func4, Try.ntmps4
    go_wp2
    refine wp_region_beyond (w.heap.size + 1) (by kernel_rfl) (by kernel_rfl) ?_
    have hc0 : ∀ x : Beyond (w.heap.size + 1) (w.alloc (.cells #[.int .i64 s, .int .i64 c] 23)), x.w.cell? ⟨w.heap.size, 0, none⟩ = some (.int .i64 s) := fun x => by
      rw [x.h.cell (by simp)]; simp [go_sem]
    repeat (go_big_quiet_step ((first
      | (go_at_call 7; exact Calls.beyond (by simp) (calls_below (align_any _ _ ⟨by omega, by omega⟩ ⟨by omega, by omega⟩ _))))))
    refine wpQuiet_nil ?_
    rintro w1 ⟨⟨_, hb⟩, rfl⟩
    clear hc0
    go_wp2
    have hlt := hb.size
    simp only [World.size_alloc] at hlt
    refine wp_region_beyond (w.heap.size + 1) (by kernel_rfl) (by kernel_rfl) ?_
    have hd0 : ∀ x : Beyond (w.heap.size + 1) w1, x.w.cell? ⟨w.heap.size, 0, none⟩ = some (.int .i64 s) := fun x => by
      rw [x.h.cell (by simp), hb.cell (by simp)]; simp [go_sem]
    have hd1 : ∀ x : Beyond (w.heap.size + 1) w1, x.w.cell? ⟨w.heap.size, 1, none⟩ = some (.int .i64 c) := fun x => by
      rw [x.h.cell (by simp), hb.cell (by simp)]; simp [go_sem]
    have HR2 := HR.out
    have HB2 := HB.out
    repeat (go_big_quiet_step ((first
      | (go_at_call 9; exact Calls.beyond hlt (place_any _ _ _ ⟨by omega, by omega⟩ ⟨by omega, by omega⟩ ⟨by omega, by omega⟩ _))
      | (go_at_call 11; exact Calls.beyond hlt (known_any _)))))
    refine wpQuiet_nil ?_
    rintro w2 ⟨⟨_, hb2⟩, rfl⟩
    clear hd0 hd1
    go_wp2
    go_ret
    exact ⟨rfl, ((Below.refl _ _).alloc (Nat.le_refl _) _).trans ((hb.trans hb2).mono (by omega))⟩
theorem rounds_any (s c t p : Int) (hs : I64 s) (hc : I64 c) (ht : I64 t) (hp : I64 p) (w : World) :
    Calls Try.prog 4 #[.agg #[.int .i64 s, .int .i64 c], .int .i64 t, .int .i64 p] w fun e w' => e = .returned (.bool true) ∧ Below w.heap.size w w' := by
  by_cases h : 1 ≤ s ∧ s ≤ 16777216 ∧ 1 ≤ c ∧ c ≤ 16777216 ∧ 0 ≤ t ∧ t ≤ 4294967295 ∧ 0 ≤ p ∧ p ≤ 4294967295
  · obtain ⟨a, b, c', d, e, f, g, i⟩ := h
    exact rounds_yes s c t p a b c' d e f g i w
  · exact rounds_no s c t p hs hc ht hp h w
end Go.Proofs.Ytjgfhkgjaodjhaa
