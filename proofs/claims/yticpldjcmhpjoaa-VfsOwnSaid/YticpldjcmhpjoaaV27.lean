/-
  Bytes of two slices compared (same).
-/
import Derived.Test.YticpldjcmhpjoaaV26
namespace Go.Proofs.Yticpldjcmhpjoaa
open Go.RowKit
set_option linter.unusedVariables false
set_option linter.unusedSimpArgs false

/-- v is a slice of the bytes l (where it lies matters only if there are any) -/
def HoldsAt (w : World) (v : Value) (l : List UInt8) : Prop :=
  ∃ p c b o, v = .slice p l.length c ∧ l.length ≤ c ∧ (0 < l.length → p = some ⟨b, o, none⟩) ∧ ∀ i x, l[i]? = some x → w.cell? ⟨b, o + i, none⟩ = some (.int .u8 (x.toNat : Int))
theorem HoldsAt.grow {w w' : World} {v : Value} {l : List UInt8} (h : HoldsAt w v l) (hg : Grow w w') : HoldsAt w' v l := by
  obtain ⟨p, c, b, o, h1, h2, h3, h4⟩ := h
  exact ⟨p, c, b, o, h1, h2, h3, fun i x hx => by have := h4 i x hx; exact (Below.cell hg (lt_of_cell this)).trans this⟩
theorem BytesIn.at {P : Nat → Prop} {w : World} {v : Value} {l : List UInt8} (h : BytesIn P w v l) : HoldsAt w v l := by
  rcases h with ⟨rfl, rfl⟩ | ⟨g, c, h1, h2, _, h4⟩
  · exact ⟨none, 0, 0, 0, rfl, Nat.le_refl _, fun h => absurd h (by simp), fun i x hx => by simp at hx⟩
  · exact ⟨some ⟨g, 0, none⟩, c, g, 0, h1, h4, fun _ => rfl, fun i x hx => by rw [Nat.zero_add]; exact h2 i x hx⟩
theorem HoldsAt.holds {w : World} {v : Value} {l : List UInt8} (h : HoldsAt w v l) : Lib.HoldsBytes w v l := by
  obtain ⟨p, c, b, o, h1, h2, h3, h4⟩ := h
  refine ⟨p, c, h1, fun hp => ?_, fun a ha i x hx => ?_⟩
  · cases l with
    | nil => rfl
    | cons y r => rw [h3 (by simp)] at hp; cases hp
  · have h0 : 0 < l.length := by have := (List.getElem?_eq_some_iff.1 hx).1; omega
    rw [h3 h0] at ha
    injection ha with ha
    subst ha
    rw [add_plain]
    exact h4 i x hx
theorem u8_ne {x y : UInt8} : ((x.toNat : Int) == (y.toNat : Int)) = (x == y) := by
  rw [Bool.eq_iff_iff]
  simp only [beq_iff_eq]
  constructor
  · intro h
    exact UInt8.toNat_inj.1 (by omega)
  · intro h
    rw [h]
theorem same_any (v1 v2 : Value) (l1 l2 : List UInt8) (w : World) (h1 : HoldsAt w v1 l1) (h2 : HoldsAt w v2 l2) (hl : l1.length ≤ 1073741824) (hl2 : l2.length ≤ 1073741824) :
    Calls Try.prog 15 #[v1, v2] w (OnlyP (.bool (decide (l1 = l2))) w) := by
  obtain ⟨p, c, b, o, rfl, _, hp, hc⟩ := h1
  obtain ⟨q, d, e, u, rfl, _, hq, hd⟩ := h2
  obtain ⟨n, hn⟩ : ∃ n, n = l1.length := ⟨_, rfl⟩
  obtain ⟨m, hm⟩ : ∃ m, m = l2.length := ⟨_, rfl⟩
  rw [← hn] at hp hl ⊢
  rw [← hm] at hq hl2 ⊢
  have HP := Lib.hid hp
  have HQ := Lib.hid hq
  have HC := Lib.hid hc
  have HD := Lib.hid hd
  have HN := Lib.hid hn
  have HM := Lib.hid hm
  by_cases hnm : n = m
  · have hqm : 0 < n → q = some ⟨e, u, none⟩ := fun h => hq (by omega)
    have HQ := Lib.hid hqm
    have HM := Lib.hid (show n = l2.length by omega)
    clear hp hq hc hd hn hm hqm
    subst hnm
    go_enter Try.func15, Try.ntmps15
    go_wp2
    go_loopw [5] (fun i wr => ∃ j : Nat, j ≤ n ∧ i = .int .i64 (j : Int) ∧ Hid (l1.take j = l2.take j) ∧ Hid (Grow w wr)) (fun i _ => n - (intOf i).toNat)
    case atStart => exact ⟨0, by omega, rfl, Lib.hid rfl, Lib.hid (Grow.refl w)⟩
    case round =>
      obtain ⟨j, hj, rfl, HT, HG⟩ := hrel
      have k0 : (0 : Int) ≤ (j : Int) := by omega
      by_cases hlt : j < n
      · have k1 : (j : Int) < (n : Int) := by omega
        obtain ⟨x, hx⟩ : ∃ x, l1[j]? = some x := ⟨_, List.getElem?_eq_getElem (by rw [← HN.out]; exact hlt)⟩
        obtain ⟨y, hy⟩ : ∃ y, l2[j]? = some y := ⟨_, List.getElem?_eq_getElem (by rw [← HM.out]; exact hlt)⟩
        have ep := HP.out (by omega)
        have eq := HQ.out (by omega)
        subst ep eq
        have x1 := HC.out j x hx
        have x1 := (Below.cell HG.out (lt_of_cell x1)).trans x1
        have y1 := HD.out j y hy
        have y1 := (Below.cell HG.out (lt_of_cell y1)).trans y1
        have HX := Lib.hid hx
        have HY := Lib.hid hy
        obtain ⟨xi, hxi⟩ : ∃ xi : Int, xi = (x.toNat : Int) := ⟨_, rfl⟩
        obtain ⟨yi, hyi⟩ : ∃ yi : Int, yi = (y.toNat : Int) := ⟨_, rfl⟩
        have hxy9 : (xi == yi) = (x == y) := by rw [hxi, hyi]; exact u8_ne
        rw [← hxi] at x1
        rw [← hyi] at y1
        clear hx hy hxi hyi
        cases hxy : (x == y) with
        | true =>
          rw [hxy] at hxy9
          have hxy2 : (xi != yi) = false := by simpa [bne] using hxy9
          have HXY := Lib.hid (show x = y from by simpa using hxy)
          clear hxy hxy9
          go_wp2
          go_quiet (fail)
          go_wp2
          go_roundw
          case rel => exact ⟨j + 1, by omega, by go_num, Lib.hid (by
            have a1 := HX.out
            have a2 := HY.out
            rw [← HXY.out] at a2
            rw [List.take_add_one, List.take_add_one, HT.out, a1, a2]), Lib.hid (below_drewN HG.out _)⟩
          case measure => simp [intOf]; omega
        | false =>
          rw [hxy] at hxy9
          have hxy2 : (xi != yi) = true := by simpa [bne] using hxy9
          have HXY := Lib.hid (show ¬ x = y from by simpa using hxy)
          clear hxy hxy9
          go_wp2
          go_quiet (fail)
          go_wp2
          go_ret
          refine ⟨ret_bool ?_, below_drewN HG.out _⟩
          symm
          rw [decide_eq_false_iff_not]
          intro e
          have a1 := HX.out
          rw [e, HY.out] at a1
          injection a1 with a1
          exact HXY.out a1.symm
      · have k1 : ¬ (j : Int) < (n : Int) := by omega
        obtain rfl : n = j := by omega
        go_wp2
        go_ret
        refine ⟨ret_bool ?_, HG.out⟩
        symm
        rw [decide_eq_true_iff]
        have := HT.out
        rw [List.take_of_length_le (by rw [← HN.out]; exact Nat.le_refl _), List.take_of_length_le (by rw [← HM.out]; exact Nat.le_refl _)] at this
        exact this
  · have k1 : ((n : Int) != (m : Int)) = true := by simp; omega
    have k2 : ((n : Int) == (m : Int)) = false := by simp; omega
    have HNM := Lib.hid hnm
    clear hp hq hc hd hn hm hnm
    go_enter Try.func15, Try.ntmps15
    go_wp2
    go_ret
    refine ⟨ret_bool ?_, Below.refl _ _⟩
    symm
    rw [decide_eq_false_iff_not]
    intro e
    exact HNM.out (by rw [HN.out, HM.out, e])
end Go.Proofs.Yticpldjcmhpjoaa
