/-
  The walks of Size, Span, Offset.
-/
import Derived.Test.YtcfcdajglfipeaaMay
namespace Go.Proofs.Ytcfcdajglfipeaa
open Go.RowKit

/-- a header's archives, whatever their slice -/
def Hd (w : World) (ao : Option Addr) (n c : Nat) (l : List (Int × Int)) : Prop :=
  l.length = n ∧ n ≤ c ∧ (∀ i, i < l.length → I64 (at_ l i).1 ∧ I64 (at_ l i).2) ∧ (0 < n → ∃ b o, ao = some ⟨b, o, none⟩ ∧ ArchAt w b o l)
theorem Hd.grow {w w' : World} {ao : Option Addr} {n c : Nat} {l : List (Int × Int)} (h : Hd w ao n c l) (hg : Grow w w') : Hd w' ao n c l :=
  ⟨h.1, h.2.1, h.2.2.1, fun h0 => by obtain ⟨b, o, e, ha⟩ := h.2.2.2 h0; exact ⟨b, o, e, ha.below ha.1 hg⟩⟩
theorem Hd.ear {w : World} {ao : Option Addr} {n c : Nat} {l : List (Int × Int)} {g x : Int} (h : Hd w ao n c l) (hm : May g x l) : 1 ≤ n ∧ n ≤ 8 := by
  rw [← h.1]; exact ⟨hm.1.2.2.2.2.1, hm.1.2.2.2.2.2⟩

theorem check_hd (g x : Int) (ao : Option Addr) (n c : Nat) (l : List (Int × Int)) (w : World) (h : Hd w ao n c l) :
    Calls Try.prog 12 #[.agg #[.int .i64 g, .int .i64 x, .slice ao n c]] w fun e w' => e = .returned (.int .i64 (checkR g x l)) ∧ Below w.heap.size w w' := by
  by_cases he : 1 ≤ g ∧ g ≤ 5 ∧ 0 ≤ x ∧ x ≤ 1000000 ∧ 1 ≤ l.length ∧ l.length ≤ 8
  · obtain ⟨b, o, rfl, ha⟩ := h.2.2.2 (by rw [← h.1]; omega)
    have := check_main g x b o c l h.2.2.1 he w ha
    rwa [h.1] at this
  · rw [checkR_no fun hm => he hm.1]
    exact check_early g x ao n c (by rw [← h.1]; exact he) w
theorem may_hd (g x : Int) (ao : Option Addr) (n c : Nat) (l : List (Int × Int)) (w : World) (h : Hd w ao n c l) :
    Calls Try.prog 6 #[.agg #[.int .i64 g, .int .i64 x, .slice ao n c]] w fun e w' => e = .returned (.bool (decide (May g x l))) ∧ Below w.heap.size w w' := by
  by_cases he : 1 ≤ g ∧ g ≤ 5 ∧ 0 ≤ x ∧ x ≤ 1000000 ∧ 1 ≤ l.length ∧ l.length ≤ 8
  · obtain ⟨b, o, rfl, ha⟩ := h.2.2.2 (by rw [← h.1]; omega)
    have := may_main g x b o c l h.2.2.1 he w ha
    rwa [h.1] at this
  · have : decide (May g x l) = false := decide_eq_false fun hm => he hm.1
    rw [this]
    exact may_early g x ao n c (by rw [← h.1]; exact he) w

/-- Check's answers, in every later world -/
theorem check_yes {g x : Int} {ao : Option Addr} {n c : Nat} {l : List (Int × Int)} {w : World} (h : Hd w ao n c l) (hm : May g x l) :
    ∀ W, Grow w W → Calls Try.prog 12 #[.agg #[.int .i64 g, .int .i64 x, .slice ao n c]] W fun e w' => e = .returned (.int .i64 0) ∧ Below W.heap.size W w' := fun W hG => by
  have := check_hd g x ao n c l W (h.grow hG)
  rwa [checkR_yes hm] at this
theorem check_not {g x : Int} {ao : Option Addr} {n c : Nat} {l : List (Int × Int)} {w : World} (h : Hd w ao n c l) (hm : ¬ May g x l) :
    ∀ W, Grow w W → Calls Try.prog 12 #[.agg #[.int .i64 g, .int .i64 x, .slice ao n c]] W fun e w' => e = .returned (.int .i64 1) ∧ Below W.heap.size W w' := fun W hG => by
  have := check_hd g x ao n c l W (h.grow hG)
  rwa [checkR_no hm] at this

theorem size_not (g x : Int) (ao : Option Addr) (n c : Nat) (l : List (Int × Int)) (w : World) (h : Hd w ao n c l) (hm : ¬ May g x l) :
    Calls Try.prog 8 #[.agg #[.int .i64 g, .int .i64 x, .slice ao n c]] w fun e w' => e = .returned (.int .i64 0) ∧ Below w.heap.size w w' := by
  have CH := Lib.hid (check_not h hm)
  clear h hm
  go_enter Try.func8, Try.ntmps8
  go_wp2_with fail
  refine (CH.out _ ((Grow.refl w).alloc _)).mono ?_
  rintro e w1 ⟨rfl, b1⟩
  go_wp2
  go_ret
  exact ⟨rfl, ((Below.refl _ _).alloc (Nat.le_refl _) _).trans (b1.mono (by simp))⟩

theorem size_yes (g x : Int) (b o n c : Nat) (l : List (Int × Int)) (w : World) (h : Hd w (some ⟨b, o, none⟩) n c l) (hm : May g x l) :
    Calls Try.prog 8 #[.agg #[.int .i64 g, .int .i64 x, .slice (some ⟨b, o, none⟩) n c]] w fun e w' => e = .returned (.int .i64 (sizeTo l n)) ∧ Below w.heap.size w w' := by
  have CH := Lib.hid (check_yes h hm)
  have SZ : ∀ W, Grow w W → Calls Try.prog 21 #[.agg #[.int .i64 g, .int .i64 x, .slice (some ⟨b, o, none⟩) n c]] W fun e w' => e = .returned (.int .i64 (sizeTo l n)) ∧ Below W.heap.size W w' := fun W hG => by
    obtain ⟨b', o', e, ha⟩ := h.2.2.2 (by have := h.ear hm; omega)
    injection e with e
    injection e with e1 e2 _
    subst e1 e2
    have := size_any g x b o c l hm.1.2.2.2.2.1 hm.1.2.2.2.2.2 hm.2.1 W (ha.below ha.1 hG)
    rwa [h.1] at this
  have HS := Lib.hid SZ
  clear SZ h hm
  go_enter Try.func8, Try.ntmps8
  go_wp2_with fail
  refine (CH.out _ ((Grow.refl w).alloc _)).mono ?_
  rintro e w1 ⟨rfl, b1⟩
  have q0 : w1.cell? ⟨w.heap.size, 0, none⟩ = some (.int .i64 g) := (b1.cell (p := ⟨w.heap.size, 0, none⟩) (by simp)).trans (by simp [go_sem])
  have q1 : w1.cell? ⟨w.heap.size, 1, none⟩ = some (.int .i64 x) := (b1.cell (p := ⟨w.heap.size, 1, none⟩) (by simp)).trans (by simp [go_sem])
  have q2 : w1.cell? ⟨w.heap.size, 2, none⟩ = some (.slice (some ⟨b, o, none⟩) n c) := (b1.cell (p := ⟨w.heap.size, 2, none⟩) (by simp)).trans (by simp [go_sem])
  have g1 : Grow w w1 := ((Grow.refl w).alloc _).trans b1
  clear b1
  go_wp2_with fail
  refine (HS.out w1 g1).mono ?_
  rintro e w2 ⟨rfl, b2⟩
  go_wp2
  go_ret
  exact ⟨rfl, g1.trans b2⟩

theorem span_yes (g x : Int) (b o n c : Nat) (l : List (Int × Int)) (w : World) (h : Hd w (some ⟨b, o, none⟩) n c l) (hm : May g x l) :
    Calls Try.prog 15 #[.agg #[.int .i64 g, .int .i64 x, .slice (some ⟨b, o, none⟩) n c]] w fun e w' => e = .returned (.int .i64 ((last_ l).1 * (last_ l).2)) ∧ Below w.heap.size w w' := by
  have CH := Lib.hid (check_yes h hm)
  obtain ⟨n1, n8⟩ := h.ear hm
  have hk1 : n - 1 < l.length := by rw [h.1]; omega
  obtain ⟨b', o', e, ha⟩ := h.2.2.2 (by omega)
  injection e with e
  injection e with e1 e2 _
  subst e1 e2
  have c3 := (ha.2 (n - 1) hk1).1
  have c4 := (ha.2 (n - 1) hk1).2
  have hla : at_ l (n - 1) = last_ l := by rw [last_, h.1]
  obtain ⟨⟨i1, i2, i3, i4⟩, _⟩ := hm.2.1 (n - 1) hk1
  rw [hla] at c3 c4 i1 i2 i3 i4
  obtain ⟨m1, m2⟩ := mul_in _ _ i1 i2 i3 i4
  have hb := ha.1
  have u1 : ((n : Int) - 1).toNat = n - 1 := by omega
  obtain ⟨L, hL⟩ : ∃ L, L = last_ l := ⟨_, rfl⟩
  rw [← hL] at c3 c4 i1 i2 i3 i4 m1 m2 ⊢
  clear h hm hla hL ha hk1
  go_enter Try.func15, Try.ntmps15
  go_wp2_with fail
  refine (CH.out _ ((Grow.refl w).alloc _)).mono ?_
  rintro e w1 ⟨rfl, b1⟩
  have q2 : w1.cell? ⟨w.heap.size, 2, none⟩ = some (.slice (some ⟨b, o, none⟩) n c) := (b1.cell (p := ⟨w.heap.size, 2, none⟩) (by simp)).trans (by simp [go_sem])
  have g1 : Grow w w1 := ((Grow.refl w).alloc _).trans b1
  have d3 := (Below.cell g1 (p := ⟨b, _, none⟩) hb).trans c3
  have d4 := (Below.cell g1 (p := ⟨b, _, none⟩) hb).trans c4
  clear b1 c3 c4
  go_wp2
  go_ret
  exact ⟨rfl, g1.alloc _⟩

theorem span_not (g x : Int) (ao : Option Addr) (n c : Nat) (l : List (Int × Int)) (w : World) (h : Hd w ao n c l) (hm : ¬ May g x l) :
    Calls Try.prog 15 #[.agg #[.int .i64 g, .int .i64 x, .slice ao n c]] w fun e w' => e = .returned (.int .i64 0) ∧ Below w.heap.size w w' := by
  have CH := Lib.hid (check_not h hm)
  clear h hm
  go_enter Try.func15, Try.ntmps15
  go_wp2_with fail
  refine (CH.out _ ((Grow.refl w).alloc _)).mono ?_
  rintro e w1 ⟨rfl, b1⟩
  go_wp2
  go_ret
  exact ⟨rfl, ((Below.refl _ _).alloc (Nat.le_refl _) _).trans (b1.mono (by simp))⟩
end Go.Proofs.Ytcfcdajglfipeaa
