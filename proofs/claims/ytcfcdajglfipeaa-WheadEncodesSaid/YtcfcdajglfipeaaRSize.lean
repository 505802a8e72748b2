/-
  The walks of the reference's Size, Offset, Span.
-/
import Derived.Test.YtcfcdajglfipeaaOffset
namespace Go.Proofs.Ytcfcdajglfipeaa
open Go.RowKit

theorem may_yes {g x : Int} {ao : Option Addr} {n c : Nat} {l : List (Int × Int)} {w : World} (h : Hd w ao n c l) (hm : May g x l) :
    ∀ W, Grow w W → Calls Try.prog 6 #[.agg #[.int .i64 g, .int .i64 x, .slice ao n c]] W fun e w' => e = .returned (.bool true) ∧ Below W.heap.size W w' := fun W hG => by
  have := may_hd g x ao n c l W (h.grow hG)
  rwa [decide_eq_true hm] at this
theorem may_not {g x : Int} {ao : Option Addr} {n c : Nat} {l : List (Int × Int)} {w : World} (h : Hd w ao n c l) (hm : ¬ May g x l) :
    ∀ W, Grow w W → Calls Try.prog 6 #[.agg #[.int .i64 g, .int .i64 x, .slice ao n c]] W fun e w' => e = .returned (.bool false) ∧ Below W.heap.size W w' := fun W hG => by
  have := may_hd g x ao n c l W (h.grow hG)
  rwa [decide_eq_false hm] at this

theorem rsize_not (g x : Int) (ao : Option Addr) (n c : Nat) (l : List (Int × Int)) (w : World) (h : Hd w ao n c l) (hm : ¬ May g x l) :
    Calls Try.prog 13 #[.agg #[.int .i64 g, .int .i64 x, .slice ao n c]] w fun e w' => e = .returned (.int .i64 0) ∧ Below w.heap.size w w' := by
  have CH := Lib.hid (may_not h hm)
  clear h hm
  go_enter Try.func13, Try.ntmps13
  go_wp2_with fail
  refine (CH.out _ ((Grow.refl w).alloc _)).mono ?_
  rintro e w1 ⟨rfl, b1⟩
  go_wp2
  go_ret
  exact ⟨rfl, ((Below.refl _ _).alloc (Nat.le_refl _) _).trans (b1.mono (by simp))⟩

set_option maxHeartbeats 1000000 in
theorem rsize_yes (g x : Int) (b o n c : Nat) (l : List (Int × Int)) (w : World) (h : Hd w (some ⟨b, o, none⟩) n c l) (hm : May g x l) :
    Calls Try.prog 13 #[.agg #[.int .i64 g, .int .i64 x, .slice (some ⟨b, o, none⟩) n c]] w fun e w' => e = .returned (.int .i64 (sizeTo l n)) ∧ Below w.heap.size w w' := by
  have CH := Lib.hid (may_yes h hm)
  obtain ⟨n1, n8⟩ := h.ear hm
  obtain ⟨b', o', e, ha⟩ := h.2.2.2 (by omega)
  injection e with e
  injection e with e1 e2 _
  subst e1 e2
  have hb := ha.1
  have hc := h.2.1
  have HA := Lib.hid ha
  have HN := Lib.hid h.1
  have HG := Lib.hid hm.2.1
  clear h hm ha
  go_enter Try.func13, Try.ntmps13
  go_wp2_with fail
  refine (CH.out _ ((Grow.refl w).alloc _)).mono ?_
  rintro e w1 ⟨rfl, b1⟩
  have q2 : w1.cell? ⟨w.heap.size, 2, none⟩ = some (.slice (some ⟨b, o, none⟩) n c) := (b1.cell (p := ⟨w.heap.size, 2, none⟩) (by simp)).trans (by simp [go_sem])
  have g1 : Grow w w1 := ((Grow.refl w).alloc _).trans b1
  have hs1 : w.heap.size < w1.heap.size := by have := b1.size; simp at this; omega
  clear b1
  go_wp2
  go_loopw [3, 4] (fun t i wr => ∃ k : Nat, k ≤ n ∧ i = .int .i64 k ∧ t = .int .i64 (sizeTo l k) ∧ Grow w1 wr) (fun _ i _ => n - (intOf i).toNat)
  case atStart => exact ⟨0, by omega, rfl, rfl, Grow.refl _⟩
  case round =>
    obtain ⟨k, hk, rfl, rfl, hgr⟩ := hrel
    have r2 := (Below.cell hgr (p := ⟨w.heap.size, 2, none⟩) hs1).trans q2
    by_cases hlt : k < n
    · have hkl : k < l.length := by rw [HN.out]; omega
      have c2 := (Below.cell (g1.trans hgr) (p := ⟨b, _, none⟩) hb).trans (HA.out.2 k hkl).2
      obtain ⟨t1, t2⟩ := sizeTo_in l l.length HG.out k (by omega)
      obtain ⟨⟨_, _, a3, a4⟩, _⟩ := HG.out k hkl
      obtain ⟨T, hT⟩ : ∃ T, T = sizeTo l k := ⟨_, rfl⟩
      rw [← hT] at t1 t2 ⊢
      have HT := Lib.hid hT
      clear hT hkl
      go_wp2
      go_roundw
      case rel => exact ⟨k + 1, by omega, by go_num, (show Value.int .i64 _ = Value.int .i64 _ from by simp only [sizeTo, ← HT.out]; congr 1; omega), hgr⟩
      case measure => simp [intOf]; omega
    · obtain rfl : k = n := by omega
      go_wp2
      go_ret
      exact ⟨rfl, g1.trans hgr⟩

theorem rsize_any (g x : Int) (ao : Option Addr) (n c : Nat) (l : List (Int × Int)) (w : World) (h : Hd w ao n c l) :
    Calls Try.prog 13 #[.agg #[.int .i64 g, .int .i64 x, .slice ao n c]] w fun e w' => e = .returned (.int .i64 (if May g x l then sizeTo l n else 0)) ∧ Below w.heap.size w w' := by
  by_cases hm : May g x l
  · rw [if_pos hm]
    obtain ⟨b, o, rfl, _⟩ := h.2.2.2 (by have := h.ear hm; omega)
    exact rsize_yes g x b o n c l w h hm
  · rw [if_neg hm]
    exact rsize_not g x ao n c l w h hm
theorem size_all (g x : Int) (ao : Option Addr) (n c : Nat) (l : List (Int × Int)) (w : World) (h : Hd w ao n c l) :
    Calls Try.prog 8 #[.agg #[.int .i64 g, .int .i64 x, .slice ao n c]] w fun e w' => e = .returned (.int .i64 (if May g x l then sizeTo l n else 0)) ∧ Below w.heap.size w w' := by
  by_cases hm : May g x l
  · rw [if_pos hm]
    obtain ⟨b, o, rfl, _⟩ := h.2.2.2 (by have := h.ear hm; omega)
    exact size_yes g x b o n c l w h hm
  · rw [if_neg hm]
    exact size_not g x ao n c l w h hm

theorem rspan_not (g x : Int) (ao : Option Addr) (n c : Nat) (l : List (Int × Int)) (w : World) (h : Hd w ao n c l) (hm : ¬ May g x l) :
    Calls Try.prog 16 #[.agg #[.int .i64 g, .int .i64 x, .slice ao n c]] w fun e w' => e = .returned (.int .i64 0) ∧ Below w.heap.size w w' := by
  have CH := Lib.hid (may_not h hm)
  clear h hm
  go_enter Try.func16, Try.ntmps16
  go_wp2_with fail
  refine (CH.out _ ((Grow.refl w).alloc _)).mono ?_
  rintro e w1 ⟨rfl, b1⟩
  go_wp2
  go_ret
  exact ⟨rfl, ((Below.refl _ _).alloc (Nat.le_refl _) _).trans (b1.mono (by simp))⟩

theorem rspan_yes (g x : Int) (b o n c : Nat) (l : List (Int × Int)) (w : World) (h : Hd w (some ⟨b, o, none⟩) n c l) (hm : May g x l) :
    Calls Try.prog 16 #[.agg #[.int .i64 g, .int .i64 x, .slice (some ⟨b, o, none⟩) n c]] w fun e w' => e = .returned (.int .i64 ((last_ l).1 * (last_ l).2)) ∧ Below w.heap.size w w' := by
  have CH := Lib.hid (may_yes h hm)
  obtain ⟨n1, n8⟩ := h.ear hm
  have hk1 : n - 1 < l.length := by rw [h.1]; omega
  obtain ⟨b', o', e, ha⟩ := h.2.2.2 (by omega)
  injection e with e
  injection e with e1 e2 _
  subst e1 e2
  have c3 := (ha.2 (n - 1) hk1).1
  have c4 := (ha.2 (n - 1) hk1).2
  have hla : at_ l (n - 1) = last_ l := by rw [last_, h.1]
  obtain ⟨⟨i1, i2, i3, i4⟩, _⟩ := hm.2.1 (n - 1) hk1
  rw [hla] at c3 c4 i1 i2 i3 i4
  obtain ⟨m1, m2⟩ := mul_in _ _ i1 i2 i3 i4
  have hb := ha.1
  have u1 : ((n : Int) - 1).toNat = n - 1 := by omega
  obtain ⟨L, hL⟩ : ∃ L, L = last_ l := ⟨_, rfl⟩
  rw [← hL] at c3 c4 i1 i2 i3 i4 m1 m2 ⊢
  clear h hm hla hL ha hk1
  go_enter Try.func16, Try.ntmps16
  go_wp2_with fail
  refine (CH.out _ ((Grow.refl w).alloc _)).mono ?_
  rintro e w1 ⟨rfl, b1⟩
  have q2 : w1.cell? ⟨w.heap.size, 2, none⟩ = some (.slice (some ⟨b, o, none⟩) n c) := (b1.cell (p := ⟨w.heap.size, 2, none⟩) (by simp)).trans (by simp [go_sem])
  have g1 : Grow w w1 := ((Grow.refl w).alloc _).trans b1
  have d3 := (Below.cell g1 (p := ⟨b, _, none⟩) hb).trans c3
  have d4 := (Below.cell g1 (p := ⟨b, _, none⟩) hb).trans c4
  clear b1 c3 c4
  go_wp2
  go_ret
  exact ⟨rfl, g1.alloc _⟩

def spanOf (g x : Int) (l : List (Int × Int)) : Int := if May g x l then (last_ l).1 * (last_ l).2 else 0
theorem rspan_any (g x : Int) (ao : Option Addr) (n c : Nat) (l : List (Int × Int)) (w : World) (h : Hd w ao n c l) :
    Calls Try.prog 16 #[.agg #[.int .i64 g, .int .i64 x, .slice ao n c]] w fun e w' => e = .returned (.int .i64 (spanOf g x l)) ∧ Below w.heap.size w w' := by
  by_cases hm : May g x l
  · rw [spanOf, if_pos hm]
    obtain ⟨b, o, rfl, _⟩ := h.2.2.2 (by have := h.ear hm; omega)
    exact rspan_yes g x b o n c l w h hm
  · rw [spanOf, if_neg hm]
    exact rspan_not g x ao n c l w h hm
theorem span_all (g x : Int) (ao : Option Addr) (n c : Nat) (l : List (Int × Int)) (w : World) (h : Hd w ao n c l) :
    Calls Try.prog 15 #[.agg #[.int .i64 g, .int .i64 x, .slice ao n c]] w fun e w' => e = .returned (.int .i64 (spanOf g x l)) ∧ Below w.heap.size w w' := by
  by_cases hm : May g x l
  · rw [spanOf, if_pos hm]
    obtain ⟨b, o, rfl, _⟩ := h.2.2.2 (by have := h.ear hm; omega)
    exact span_yes g x b o n c l w h hm
  · rw [spanOf, if_neg hm]
    exact span_not g x ao n c l w h hm

theorem roffset_bad (g x i : Int) (ao : Option Addr) (n c : Nat) (l : List (Int × Int)) (w : World) (h : Hd w ao n c l) (hm : ¬ May g x l) :
    Calls Try.prog 14 #[.agg #[.int .i64 g, .int .i64 x, .slice ao n c], .int .i64 i] w fun e w' => e = .returned (.int .i64 0) ∧ Below w.heap.size w w' := by
  have CH := Lib.hid (may_not h hm)
  clear h hm
  go_enter Try.func14, Try.ntmps14
  go_wp2_with fail
  refine (CH.out _ ((Grow.refl w).alloc _)).mono ?_
  rintro e w1 ⟨rfl, b1⟩
  go_wp2
  go_ret
  exact ⟨rfl, ((Below.refl _ _).alloc (Nat.le_refl _) _).trans (b1.mono (by simp))⟩

theorem roffset_out (g x i : Int) (ao : Option Addr) (n c : Nat) (l : List (Int × Int)) (w : World) (h : Hd w ao n c l) (hm : May g x l) (hi : i < 0 ∨ (n : Int) ≤ i) :
    Calls Try.prog 14 #[.agg #[.int .i64 g, .int .i64 x, .slice ao n c], .int .i64 i] w fun e w' => e = .returned (.int .i64 0) ∧ Below w.heap.size w w' := by
  have CH := Lib.hid (may_yes h hm)
  clear h hm
  by_cases h1 : i < 0
  · clear hi
    go_enter Try.func14, Try.ntmps14
    go_wp2_with fail
    refine (CH.out _ ((Grow.refl w).alloc _)).mono ?_
    rintro e w1 ⟨rfl, b1⟩
    go_wp2
    go_ret
    exact ⟨rfl, ((Below.refl _ _).alloc (Nat.le_refl _) _).trans (b1.mono (by simp))⟩
  · have h2 : (n : Int) ≤ i := by omega
    clear hi
    go_enter Try.func14, Try.ntmps14
    go_wp2_with fail
    refine (CH.out _ ((Grow.refl w).alloc _)).mono ?_
    rintro e w1 ⟨rfl, b1⟩
    have q2 : w1.cell? ⟨w.heap.size, 2, none⟩ = some (.slice ao n c) := (b1.cell (p := ⟨w.heap.size, 2, none⟩) (by simp)).trans (by simp [go_sem])
    go_wp2
    go_ret
    exact ⟨rfl, ((Below.refl _ _).alloc (Nat.le_refl _) _).trans (b1.mono (by simp))⟩

set_option maxHeartbeats 1000000 in
theorem roffset_yes (g x : Int) (b o n c j : Nat) (l : List (Int × Int)) (w : World) (h : Hd w (some ⟨b, o, none⟩) n c l) (hm : May g x l) (hj : j < n) :
    Calls Try.prog 14 #[.agg #[.int .i64 g, .int .i64 x, .slice (some ⟨b, o, none⟩) n c], .int .i64 j] w fun e w' => e = .returned (.int .i64 (offTo l j)) ∧ Below w.heap.size w w' := by
  have CH := Lib.hid (may_yes h hm)
  obtain ⟨n1, n8⟩ := h.ear hm
  obtain ⟨b', o', e, ha⟩ := h.2.2.2 (by omega)
  injection e with e
  injection e with e1 e2 _
  subst e1 e2
  have hb := ha.1
  have hc := h.2.1
  have HA := Lib.hid ha
  have HN := Lib.hid h.1
  have HG := Lib.hid hm.2.1
  have j0 : (0 : Int) ≤ (j : Int) := by omega
  have j1 : (j : Int) < (n : Int) := by omega
  have j2 : (j : Int) ≤ (c : Int) := by omega
  have e0 : offTo l 0 = 16 + 12 * (n : Int) := by rw [offTo_zero, h.1]
  have E0 := Lib.hid e0
  clear h hm ha e0
  go_enter Try.func14, Try.ntmps14
  go_wp2_with fail
  refine (CH.out _ ((Grow.refl w).alloc _)).mono ?_
  rintro e w1 ⟨rfl, b1⟩
  have q2 : w1.cell? ⟨w.heap.size, 2, none⟩ = some (.slice (some ⟨b, o, none⟩) n c) := (b1.cell (p := ⟨w.heap.size, 2, none⟩) (by simp)).trans (by simp [go_sem])
  have g1 : Grow w w1 := ((Grow.refl w).alloc _).trans b1
  have hs1 : w.heap.size < w1.heap.size := by have := b1.size; simp at this; omega
  clear b1
  go_wp2
  go_loopw [5, 6] (fun t i wr => ∃ k : Nat, k ≤ j ∧ i = .int .i64 k ∧ t = .int .i64 (offTo l k) ∧ Grow w1 wr) (fun _ i _ => j - (intOf i).toNat)
  case atStart => exact ⟨0, by omega, rfl, by rw [E0.out], Grow.refl _⟩
  case round =>
    obtain ⟨k, hk, rfl, rfl, hgr⟩ := hrel
    have r2 := (Below.cell hgr (p := ⟨w.heap.size, 2, none⟩) hs1).trans q2
    by_cases hlt : k < j
    · have hkl : k < l.length := by rw [HN.out]; omega
      have c2 := (Below.cell (g1.trans hgr) (p := ⟨b, _, none⟩) hb).trans (HA.out.2 k hkl).2
      obtain ⟨t1, t2⟩ := sizeTo_in l l.length HG.out k (by omega)
      obtain ⟨⟨_, _, a3, a4⟩, _⟩ := HG.out k hkl
      obtain ⟨T, hT⟩ : ∃ T, T = offTo l k := ⟨_, rfl⟩
      have t3 : 16 ≤ T := by rw [hT, offTo, HN.out]; omega
      have t4 : T ≤ 2000000000 := by rw [hT, offTo, HN.out]; omega
      have hkn : (k : Int) < (n : Int) := by omega
      rw [← hT]
      have HT := Lib.hid hT
      clear hT t1 t2 hkl
      go_wp2
      go_roundw
      case rel => exact ⟨k + 1, by omega, by go_num, by rw [offTo_succ, ← HT.out], hgr⟩
      case measure => simp [intOf]; omega
    · obtain rfl : k = j := by omega
      go_wp2
      go_ret
      exact ⟨rfl, g1.trans hgr⟩

def offOf (g x : Int) (l : List (Int × Int)) (i : Int) : Int := if May g x l ∧ 0 ≤ i ∧ i < (l.length : Int) then offTo l i.toNat else 0
theorem roffset_any (g x i : Int) (ao : Option Addr) (n c : Nat) (l : List (Int × Int)) (w : World) (h : Hd w ao n c l) :
    Calls Try.prog 14 #[.agg #[.int .i64 g, .int .i64 x, .slice ao n c], .int .i64 i] w fun e w' => e = .returned (.int .i64 (offOf g x l i)) ∧ Below w.heap.size w w' := by
  by_cases hm : May g x l
  · by_cases hi : 0 ≤ i ∧ i < (n : Int)
    · obtain ⟨b, o, rfl, _⟩ := h.2.2.2 (by have := h.ear hm; omega)
      have := roffset_yes g x b o n c i.toNat l w h hm (by omega)
      rw [Int.toNat_of_nonneg hi.1] at this
      rw [offOf, if_pos ⟨hm, hi.1, by rw [h.1]; exact hi.2⟩]
      exact this
    · rw [offOf, if_neg fun hx => hi ⟨hx.2.1, by rw [← h.1]; exact hx.2.2⟩]
      exact roffset_out g x i ao n c l w h hm (by omega)
  · rw [offOf, if_neg fun hx => hm hx.1]
    exact roffset_bad g x i ao n c l w h hm
theorem offset_all (g x i : Int) (ao : Option Addr) (n c : Nat) (l : List (Int × Int)) (w : World) (h : Hd w ao n c l) :
    Calls Try.prog 7 #[.agg #[.int .i64 g, .int .i64 x, .slice ao n c], .int .i64 i] w fun e w' => e = .returned (.int .i64 (offOf g x l i)) ∧ Below w.heap.size w w' := by
  by_cases hm : May g x l
  · by_cases hi : 0 ≤ i ∧ i < (n : Int)
    · obtain ⟨b, o, rfl, _⟩ := h.2.2.2 (by have := h.ear hm; omega)
      have := offset_yes g x b o n c i.toNat l w h hm (by omega)
      rw [Int.toNat_of_nonneg hi.1] at this
      rw [offOf, if_pos ⟨hm, hi.1, by rw [h.1]; exact hi.2⟩]
      exact this
    · rw [offOf, if_neg fun hx => hi ⟨hx.2.1, by rw [← h.1]; exact hx.2.2⟩]
      exact offset_out g x i ao n c l w h hm (by omega)
  · rw [offOf, if_neg fun hx => hm hx.1]
    exact offset_bad g x i ao n c l w h hm
end Go.Proofs.Ytcfcdajglfipeaa
