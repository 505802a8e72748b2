/-
  The walks of slot.Align, slot.Place, their references, and 'known'.
-/
import Derived.Test.YtjgfhkgjaodjhaaRows
import Derived.Test.YtjgfhkgjaodjhaaBase
import Derived.Lib.Hide
namespace Go.Proofs.Ytjgfhkgjaodjhaa
open Go.RowKit

def alignS (t s : Int) : Int := if s < 1 ∨ t < 0 then t else t - t % s
def placeS (s c t : Int) : Int := if s < 1 ∨ c < 1 ∨ t < 0 then 0 else t / s % c

def I64 (t : Int) : Prop := -9223372036854775808 ≤ t ∧ t ≤ 9223372036854775807

theorem emod_le (t s : Int) (h : 0 ≤ t) (hs : 1 ≤ s) : t % s ≤ t := by
  have h1 := Int.emod_add_mul_ediv t s
  have h2 : 0 ≤ s * (t / s) := Int.mul_nonneg (by omega) (Int.ediv_nonneg h (by omega))
  omega

theorem align_any (t s : Int) (ht : I64 t) (hs : I64 s) (w : World) :
    Calls Try.prog 7 #[.int .i64 t, .int .i64 s] w fun e w' => e = .returned (.int .i64 (alignS t s)) ∧ w' = w := by
  obtain ⟨t1, t2⟩ := ht
  obtain ⟨s1, s2⟩ := hs
  by_cases h1 : s < 1
  · have hf : alignS t s = t := by simp [alignS, h1]
    have H := Lib.hid hf
    clear hf
    go_enter Try.func7, Try.ntmps7
    go_wp2
    go_ret
    exact ⟨by rw [H.out]; rfl, rfl⟩
  · by_cases h2 : t < 0
    · have hf : alignS t s = t := by simp [alignS, h2]
      have H := Lib.hid hf
      clear hf
      go_enter Try.func7, Try.ntmps7
      go_wp2
      go_ret
      exact ⟨by rw [H.out]; rfl, rfl⟩
    · have hf : alignS t s = t - t % s := by simp [alignS, h1, h2]
      have H := Lib.hid hf
      clear hf
      have b1 : 0 ≤ t % s := Int.emod_nonneg _ (by omega)
      have b2 : t % s ≤ t := emod_le t s (by omega) (by omega)
      go_enter Try.func7, Try.ntmps7
      go_wp2
      go_ret
      exact ⟨by rw [H.out]; rfl, rfl⟩

theorem ralign_any (t s : Int) (ht : I64 t) (hs : I64 s) (w : World) :
    Calls Try.prog 8 #[.int .i64 t, .int .i64 s] w fun e w' => e = .returned (.int .i64 (alignS t s)) ∧ w' = w := by
  obtain ⟨t1, t2⟩ := ht
  obtain ⟨s1, s2⟩ := hs
  by_cases h1 : s < 1
  · have hf : alignS t s = t := by simp [alignS, h1]
    have H := Lib.hid hf
    clear hf
    go_enter Try.func8, Try.ntmps8
    go_wp2
    go_ret
    exact ⟨by rw [H.out]; rfl, rfl⟩
  · by_cases h2 : t < 0
    · have hf : alignS t s = t := by simp [alignS, h2]
      have H := Lib.hid hf
      clear hf
      go_enter Try.func8, Try.ntmps8
      go_wp2
      go_ret
      exact ⟨by rw [H.out]; rfl, rfl⟩
    · have hf : alignS t s = t - t % s := by simp [alignS, h1, h2]
      have H := Lib.hid hf
      clear hf
      have b1 : 0 ≤ t % s := Int.emod_nonneg _ (by omega)
      have b2 : t % s ≤ t := emod_le t s (by omega) (by omega)
      go_enter Try.func8, Try.ntmps8
      go_wp2
      go_ret
      exact ⟨by rw [H.out]; rfl, rfl⟩

theorem place_any (s c t : Int) (hs : I64 s) (hc : I64 c) (ht : I64 t) (w : World) :
    Calls Try.prog 9 #[.agg #[.int .i64 s, .int .i64 c], .int .i64 t] w fun e w' => e = .returned (.int .i64 (placeS s c t)) ∧ Below w.heap.size w w' := by
  obtain ⟨t1, t2⟩ := ht
  obtain ⟨s1, s2⟩ := hs
  obtain ⟨c1, c2⟩ := hc
  by_cases h1 : s < 1
  · have hf : placeS s c t = 0 := by simp [placeS, h1]
    have H := Lib.hid hf
    clear hf
    go_enter Try.func9, Try.ntmps9
    go_wp2
    go_ret
    exact ⟨by rw [H.out]; rfl, (Below.refl _ _).alloc (Nat.le_refl _) _⟩
  by_cases h2 : c < 1
  · have hf : placeS s c t = 0 := by simp [placeS, h2]
    have H := Lib.hid hf
    clear hf
    go_enter Try.func9, Try.ntmps9
    go_wp2
    go_ret
    exact ⟨by rw [H.out]; rfl, (Below.refl _ _).alloc (Nat.le_refl _) _⟩
  by_cases h3 : t < 0
  · have hf : placeS s c t = 0 := by simp [placeS, h3]
    have H := Lib.hid hf
    clear hf
    go_enter Try.func9, Try.ntmps9
    go_wp2
    go_ret
    exact ⟨by rw [H.out]; rfl, (Below.refl _ _).alloc (Nat.le_refl _) _⟩
  · have hf : placeS s c t = t / s % c := by simp [placeS, h1, h2, h3]
    have H := Lib.hid hf
    clear hf
    have b1 : 0 ≤ t / s := Int.ediv_nonneg (by omega) (by omega)
    have b2 : t / s ≤ t := Int.ediv_le_self _ (by omega)
    go_enter Try.func9, Try.ntmps9
    go_wp2
    go_quiet (fail)
    go_wp2
    go_ret
    exact ⟨by rw [H.out]; rfl, below_drewN ((Below.refl _ _).alloc (Nat.le_refl _) _) _⟩
theorem rplace_any (s c t : Int) (hs : I64 s) (hc : I64 c) (ht : I64 t) (w : World) :
    Calls Try.prog 10 #[.agg #[.int .i64 s, .int .i64 c], .int .i64 t] w fun e w' => e = .returned (.int .i64 (placeS s c t)) ∧ Below w.heap.size w w' := by
  obtain ⟨t1, t2⟩ := ht
  obtain ⟨s1, s2⟩ := hs
  obtain ⟨c1, c2⟩ := hc
  by_cases h1 : s < 1
  · have hf : placeS s c t = 0 := by simp [placeS, h1]
    have H := Lib.hid hf
    clear hf
    go_enter Try.func10, Try.ntmps10
    go_wp2
    go_ret
    exact ⟨by rw [H.out]; rfl, (Below.refl _ _).alloc (Nat.le_refl _) _⟩
  by_cases h2 : c < 1
  · have hf : placeS s c t = 0 := by simp [placeS, h2]
    have H := Lib.hid hf
    clear hf
    go_enter Try.func10, Try.ntmps10
    go_wp2
    go_ret
    exact ⟨by rw [H.out]; rfl, (Below.refl _ _).alloc (Nat.le_refl _) _⟩
  by_cases h3 : t < 0
  · have hf : placeS s c t = 0 := by simp [placeS, h3]
    have H := Lib.hid hf
    clear hf
    go_enter Try.func10, Try.ntmps10
    go_wp2
    go_ret
    exact ⟨by rw [H.out]; rfl, (Below.refl _ _).alloc (Nat.le_refl _) _⟩
  · have hf : placeS s c t = t / s % c := by simp [placeS, h1, h2, h3]
    have H := Lib.hid hf
    clear hf
    have b1 : 0 ≤ t / s := Int.ediv_nonneg (by omega) (by omega)
    have b2 : t / s ≤ t := Int.ediv_le_self _ (by omega)
    go_enter Try.func10, Try.ntmps10
    go_wp2
    go_quiet (fail)
    go_wp2
    go_ret
    exact ⟨by rw [H.out]; rfl, below_drewN ((Below.refl _ _).alloc (Nat.le_refl _) _) _⟩

theorem place_known (w : World) : Calls Try.prog 9 #[.agg #[.int .i64 60, .int .i64 5], .int .i64 359] w fun e w' => e = .returned (.int .i64 0) ∧ Below w.heap.size w w' :=
  place_any 60 5 359 ⟨by decide, by decide⟩ ⟨by decide, by decide⟩ ⟨by decide, by decide⟩ w
theorem align_known (w : World) : Calls Try.prog 7 #[.int .i64 359, .int .i64 60] w fun e w' => e = .returned (.int .i64 300) ∧ w' = w :=
  align_any 359 60 ⟨by decide, by decide⟩ ⟨by decide, by decide⟩ w

theorem known_any (w : World) : Calls Try.prog 11 #[] w fun e w' => e = .returned (.bool true) ∧ Below w.heap.size w w' := by
  go_enter Try.func11, Try.ntmps11
  go_wp2_with (first
    | (go_at_call 9; refine (place_known _).mono ?_; rintro e w1 ⟨rfl, hb⟩)
    | (go_at_call 7; refine (align_known _).mono ?_; rintro e w2 ⟨rfl, rfl⟩))
  go_ret
  exact ⟨rfl, hb⟩

theorem calls_below {P : Program} {f : FuncId} {args : Array Value} {w : World} {e0 : Ending} (h : Calls P f args w fun e w' => e = e0 ∧ w' = w) : Calls P f args w fun e w' => e = e0 ∧ Below w.heap.size w w' :=
  h.mono fun _ _ ⟨h1, h2⟩ => ⟨h1, by subst h2; exact Below.refl _ _⟩

theorem places_any (s c t p : Int) (hs : I64 s) (hc : I64 c) (ht : I64 t) (hp : I64 p) (w : World) :
    Calls Try.prog 3 #[.agg #[.int .i64 s, .int .i64 c], .int .i64 t, .int .i64 p] w fun e w' => e = .returned (.bool true) ∧ Below w.heap.size w w' := by
  go_enter Try.func3, Try.ntmps3
  go_wp2
  refine wp_region_beyond (w.heap.size + 1) (by kernel_rfl) (by kernel_rfl) ?_
  have hc0 : ∀ x : Beyond (w.heap.size + 1) (w.alloc (.cells #[.int .i64 s, .int .i64 c] 23)), x.w.cell? ⟨w.heap.size, 0, none⟩ = some (.int .i64 s) := fun x => by
    rw [x.h.cell (by simp)]; simp [go_sem]
  have hc1 : ∀ x : Beyond (w.heap.size + 1) (w.alloc (.cells #[.int .i64 s, .int .i64 c] 23)), x.w.cell? ⟨w.heap.size, 1, none⟩ = some (.int .i64 c) := fun x => by
    rw [x.h.cell (by simp)]; simp [go_sem]
  repeat (go_big_quiet_step ((first
    | (go_at_call 7; exact Calls.beyond (by simp) (calls_below (align_any _ _ ht hp _)))
    | (go_at_call 8; exact Calls.beyond (by simp) (calls_below (ralign_any _ _ ht hp _)))
    | (go_at_call 9; exact Calls.beyond (by simp) (place_any _ _ _ hs hc ht _))
    | (go_at_call 10; exact Calls.beyond (by simp) (rplace_any _ _ _ hs hc ht _))
    | (go_at_call 11; exact Calls.beyond (by simp) (known_any _)))))
  refine wpQuiet_nil ?_
  rintro _ ⟨⟨w1, hb⟩, rfl⟩
  go_wp2
  go_ret
  exact ⟨rfl, ((Below.refl _ _).alloc (Nat.le_refl _) _).trans (hb.mono (by omega))⟩
end Go.Proofs.Ytjgfhkgjaodjhaa
