/-
  The walk of numbers; what known comes to.
-/
import Derived.Test.YtldcbkememonaaaH1
namespace Go.Proofs.Ytldcbkememonaaa
open Go.RowKit
set_option linter.unusedVariables false
set_option linter.unusedSimpArgs false

def NumP (b : Bool) (w : World) (e : Ending) (w' : World) : Prop := e = .returned (.bool b) ∧ Grow w w'
set_option maxHeartbeats 1000000 in
theorem numbers_any (xs ys : List Int) (v u : Value) (w : World) (h1 : IntsIn xs v w) (h2 : IntsIn ys u w) (hn : xs.length ≤ 100000) (hm : ys.length ≤ 100000) : Calls Try.prog 14 #[v, u] w (NumP (decide (xs = ys)) w) := by
  obtain ⟨a, c, hv⟩ := h1.shape
  obtain ⟨b, d, hu⟩ := h2.shape
  obtain ⟨n, hN⟩ : ∃ n, n = xs.length := ⟨_, rfl⟩
  obtain ⟨m, hM⟩ : ∃ m, m = ys.length := ⟨_, rfl⟩
  rw [← hN] at hv hn
  rw [← hM] at hu hm
  subst hv hu
  have HN := Lib.hid hN
  have HM := Lib.hid hM
  have H1 := Lib.hid h1
  have H2 := Lib.hid h2
  clear hN hM h1 h2
  by_cases hnm : n = m
  · subst hnm
    go_enter Try.func14, Try.ntmps14
    go_wp2
    go_loopw [5] (fun t wr => ∃ (j : Nat), j ≤ n ∧ t = .int .i64 j ∧ Hid (xs.take j = ys.take j) ∧ Hid (Grow w wr)) (fun t _ => n - (intOf t).toNat)
    case atStart => exact ⟨0, by omega, rfl, Lib.hid rfl, Lib.hid (Grow.refl w)⟩
    case round =>
      obtain ⟨j, hj, rfl, HT, HG⟩ := hrel
      have k0 : (0 : Int) ≤ (j : Int) := by omega
      have k5 : (j : Int) ≤ 100000 := by omega
      by_cases hlt : j < n
      · have k1 : (j : Int) < (n : Int) := by omega
        obtain ⟨x, hx⟩ : ∃ x, xs[j]? = some x := ⟨_, List.getElem?_eq_getElem (by rw [← HN.out]; exact hlt)⟩
        obtain ⟨y, hy⟩ : ∃ y, ys[j]? = some y := ⟨_, List.getElem?_eq_getElem (by rw [← HM.out]; exact hlt)⟩
        obtain ⟨g1, c1, e1, _, l1⟩ := (H1.out.grow HG.out).form (by rw [← HN.out]; omega)
        obtain ⟨g2, c2, e2, _, l2⟩ := (H2.out.grow HG.out).form (by rw [← HM.out]; omega)
        injection e1 with e1 _ e1c
        injection e2 with e2 _ e2c
        subst e1 e1c e2 e2c
        have x1 : wr.cell? ⟨g1, j, none⟩ = some (.int .i64 x) := by
          have h := H1.out.grow HG.out
          unfold IntsIn at h
          rw [← HN.out] at h
          rw [World.ownsRow.cellAt h j (by omega), List.getElem?_map, hx]; rfl
        have y1 : wr.cell? ⟨g2, j, none⟩ = some (.int .i64 y) := by
          have h := H2.out.grow HG.out
          unfold IntsIn at h
          rw [← HM.out] at h
          rw [World.ownsRow.cellAt h j (by omega), List.getElem?_map, hy]; rfl
        have HX := Lib.hid hx
        have HY := Lib.hid hy
        clear hx hy
        cases hxy : (x == y) with
        | true =>
          have hxy2 : (x != y) = false := by simpa [bne] using hxy
          have HXY := Lib.hid (show x = y from by simpa using hxy)
          clear hxy
          go_wp2
          go_quiet (fail)
          go_wp2
          go_roundw
          case rel => exact ⟨j + 1, by omega, by go_num, Lib.hid (by
            have a1 := HX.out
            have a2 := HY.out
            rw [← HXY.out] at a2
            rw [List.take_add_one, List.take_add_one, HT.out, a1, a2]), Lib.hid (below_drewN HG.out _)⟩
          case measure => simp [intOf]; omega
        | false =>
          have hxy2 : (x != y) = true := by simpa [bne] using hxy
          have HXY := Lib.hid (show ¬ x = y from by simpa using hxy)
          clear hxy
          go_wp2
          go_quiet (fail)
          go_wp2
          go_ret
          refine ⟨ret_bool ?_, below_drewN HG.out _⟩
          symm
          rw [decide_eq_false_iff_not]
          intro e
          have a1 := HX.out
          rw [e, HY.out] at a1
          injection a1 with a1
          exact HXY.out a1.symm
      · have k1 : ¬ (j : Int) < (n : Int) := by omega
        obtain rfl : n = j := by omega
        go_wp2
        go_ret
        refine ⟨ret_bool ?_, HG.out⟩
        symm
        rw [decide_eq_true_iff]
        have := HT.out
        rw [List.take_of_length_le (by rw [← HN.out]; exact Nat.le_refl _), List.take_of_length_le (by rw [← HM.out]; exact Nat.le_refl _)] at this
        exact this
  · have k1 : ((n : Int) != (m : Int)) = true := by simp; omega
    have k2 : ((n : Int) == (m : Int)) = false := by simp; omega
    have HNM := Lib.hid hnm
    clear hnm
    go_enter Try.func14, Try.ntmps14
    go_wp2
    go_ret
    refine ⟨ret_bool ?_, Grow.refl w⟩
    symm
    rw [decide_eq_false_iff_not]
    intro e
    exact HNM.out (by rw [HN.out, HM.out, e])
/-- the text of known -/
def kn0 : ByteArray := ⟨#[40, 97, 124, 97, 98, 41, 40, 99, 124, 98, 99, 100, 41]⟩
def kn1 : ByteArray := ⟨#[97, 98, 99, 100]⟩
theorem kn_ok : (compF kn0).2.2 = 0 := by decide +kernel
theorem kn_find : findF (compF kn0).1 (compF kn0).2.1 kn1 0 = some (some [0, 4, 0, 1, 1, 4]) := by decide +kernel
theorem kn_len : (compF kn0).2.1.length ≤ 100 := by decide +kernel
end Go.Proofs.Ytldcbkememonaaa
