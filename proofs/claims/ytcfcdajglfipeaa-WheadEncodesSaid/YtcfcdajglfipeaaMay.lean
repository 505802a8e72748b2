/-
  The walk of the reference's May.
-/
import Derived.Test.YtcfcdajglfipeaaCheck
namespace Go.Proofs.Ytcfcdajglfipeaa
open Go.RowKit

theorem ret_bool {a b : Bool} (h : a = b) : Ending.returned (.bool a) = .returned (.bool b) := by rw [h]
theorem sizeTo_mono (l : List (Int × Int)) (n : Nat) (hg : Good l n) (i : Nat) : ∀ j, i ≤ j → j ≤ n → sizeTo l i ≤ sizeTo l j
  | 0, h, _ => by obtain rfl : i = 0 := by omega
                  exact Int.le_refl _
  | j + 1, h, hj => by
    rcases Nat.lt_or_ge j i with h1 | h1
    · obtain rfl : i = j + 1 := by omega
      exact Int.le_refl _
    · have ih := sizeTo_mono l n hg i j h1 (by omega)
      obtain ⟨_, _, h3, _⟩ := (hg j (by omega)).1
      simp only [sizeTo]
      omega

theorem may_early (g x : Int) (ao : Option Addr) (n c : Nat) (h : ¬ (1 ≤ g ∧ g ≤ 5 ∧ 0 ≤ x ∧ x ≤ 1000000 ∧ 1 ≤ n ∧ n ≤ 8)) (w : World) :
    Calls Try.prog 6 #[.agg #[.int .i64 g, .int .i64 x, .slice ao n c]] w fun e w' => e = .returned (.bool false) ∧ Below w.heap.size w w' := by
  by_cases g1 : g < 1
  rotate_left
  by_cases g2 : 5 < g
  rotate_left
  by_cases g3 : x < 0
  rotate_left
  by_cases g4 : 1000000 < x
  rotate_left
  by_cases g5 : (n : Int) < 1
  rotate_left
  by_cases g6 : (8 : Int) < (n : Int)
  rotate_left
  · exact absurd ⟨by omega, by omega, by omega, by omega, by omega, by omega⟩ h
  all_goals
    clear h
    go_enter Try.func6, Try.ntmps6
    go_wp2
    go_ret
    exact ⟨rfl, (Below.refl _ _).alloc (Nat.le_refl _) _⟩

set_option maxHeartbeats 4000000 in
theorem may_main (g x : Int) (b o c : Nat) (l : List (Int × Int)) (hr : ∀ i, i < l.length → I64 (at_ l i).1 ∧ I64 (at_ l i).2)
    (he : 1 ≤ g ∧ g ≤ 5 ∧ 0 ≤ x ∧ x ≤ 1000000 ∧ 1 ≤ l.length ∧ l.length ≤ 8) (w : World) (ha : ArchAt w b o l) :
    Calls Try.prog 6 #[.agg #[.int .i64 g, .int .i64 x, .slice (some ⟨b, o, none⟩) l.length c]] w fun e w' => e = .returned (.bool (decide (May g x l))) ∧ Below w.heap.size w w' := by
  have HE := Lib.hid he
  obtain ⟨e1, e2, e3, e4, hn1, hn⟩ := he
  obtain ⟨n, hnn⟩ : ∃ n, n = l.length := ⟨_, rfl⟩
  rw [← hnn] at hn1 hn ⊢
  have HN := Lib.hid hnn
  have HA := Lib.hid ha
  have HR := Lib.hid hr
  have hb := ha.1
  clear hnn ha hr
  go_enter Try.func6, Try.ntmps6
  go_wp2
  obtain ⟨W0, hW⟩ : ∃ W0, W0 = w.alloc (.cells #[.int .i64 g, .int .i64 x, .slice (some ⟨b, o, none⟩) n c] 24) := ⟨_, rfl⟩
  have hbW : Below w.heap.size w W0 := by rw [hW]; exact (Below.refl _ _).alloc (Nat.le_refl _) _
  have hs0 : w.heap.size < W0.heap.size := by rw [hW]; simp
  have p0 : W0.cell? ⟨w.heap.size, 0, none⟩ = some (.int .i64 g) := by rw [hW]; simp [go_sem]
  have p1 : W0.cell? ⟨w.heap.size, 1, none⟩ = some (.int .i64 x) := by rw [hW]; simp [go_sem]
  have p2 : W0.cell? ⟨w.heap.size, 2, none⟩ = some (.slice (some ⟨b, o, none⟩) n c) := by rw [hW]; simp [go_sem]
  rw [← hW]
  clear hW
  go_loopw [3, 4] (fun t i wr => ∃ k : Nat, k ≤ n ∧ i = .int .i64 k ∧ t = .int .i64 (sizeTo l k) ∧ sizeTo l k ≤ 1048576 ∧ Hid (Good l k) ∧ Below W0.heap.size W0 wr) (fun _ i _ => n - (intOf i).toNat)
  case atStart => exact ⟨0, by omega, rfl, rfl, by simp [sizeTo], (show Good l 0 from fun i hi => absurd hi (by omega)), Below.refl _ _⟩
  case round =>
    obtain ⟨k, hk, rfl, ht, htm, HG, hbel⟩ := hrel
    obtain ⟨T, hT⟩ : ∃ T, T = sizeTo l k := ⟨_, rfl⟩
    have htl := (sizeTo_in l k HG.out k (Nat.le_refl _)).1
    rw [← hT] at ht htm htl
    subst ht
    have HT := Lib.hid hT
    have hsz := hbel.size
    have hwr : w.heap.size < wr.heap.size := by omega
    have hbr : b < wr.heap.size := by omega
    have q0 := (hbel.cell (p := ⟨w.heap.size, 0, none⟩) (by simpa using hs0)).trans p0
    have q1 := (hbel.cell (p := ⟨w.heap.size, 1, none⟩) (by simpa using hs0)).trans p1
    have q2 := (hbel.cell (p := ⟨w.heap.size, 2, none⟩) (by simpa using hs0)).trans p2
    clear hT
    by_cases hlt : k < n
    · have h1 := (HA.out.2 k (by rw [← HN.out]; exact hlt)).1
      have h2 := (HA.out.2 k (by rw [← HN.out]; exact hlt)).2
      have hbw : b < W0.heap.size := by omega
      have c1 := (hbel.cell (p := ⟨b, _, none⟩) hbw).trans ((hbW.cell (p := ⟨b, _, none⟩) hb).trans h1)
      have c2 := (hbel.cell (p := ⟨b, _, none⟩) hbw).trans ((hbW.cell (p := ⟨b, _, none⟩) hb).trans h2)
      clear h1 h2
      obtain ⟨S, hS⟩ : ∃ S, S = (at_ l k).1 := ⟨_, rfl⟩
      obtain ⟨C, hC⟩ : ∃ C, C = (at_ l k).2 := ⟨_, rfl⟩
      rw [← hS] at c1
      rw [← hC] at c2
      have HS := Lib.hid hS
      have HC := Lib.hid hC
      clear hS hC
      by_cases r1 : S < 1
      · go_wp2
        go_quiet (fail)
        go_wp2
        go_ret
        refine ⟨ret_bool (decide_eq_false fun hm => ?_).symm, hbW.trans ((below_drewN (hbel.alloc hsz _) _).mono (Nat.le_of_lt hs0))⟩
        have := (hm.2.1 k (by rw [← HN.out]; exact hlt)).1
        rw [InR, ← HS.out, ← HC.out] at this
        omega
      have d1 : decide (S < 1) = false := by simp; omega
      by_cases r2 : 16777216 < S
      · go_wp2
        go_quiet (fail)
        go_wp2
        go_ret
        refine ⟨ret_bool (decide_eq_false fun hm => ?_).symm, hbW.trans ((below_drewN (hbel.alloc hsz _) _).mono (Nat.le_of_lt hs0))⟩
        have := (hm.2.1 k (by rw [← HN.out]; exact hlt)).1
        rw [InR, ← HS.out, ← HC.out] at this
        omega
      have d2 : decide (16777216 < S) = false := by simp; omega
      by_cases r3 : C < 1
      · go_wp2
        go_quiet (fail)
        go_wp2
        go_ret
        refine ⟨ret_bool (decide_eq_false fun hm => ?_).symm, hbW.trans ((below_drewN (hbel.alloc hsz _) _).mono (Nat.le_of_lt hs0))⟩
        have := (hm.2.1 k (by rw [← HN.out]; exact hlt)).1
        rw [InR, ← HS.out, ← HC.out] at this
        omega
      have d3 : decide (C < 1) = false := by simp; omega
      by_cases r4 : 16777216 < C
      · go_wp2
        go_quiet (fail)
        go_wp2
        go_ret
        refine ⟨ret_bool (decide_eq_false fun hm => ?_).symm, hbW.trans ((below_drewN (hbel.alloc hsz _) _).mono (Nat.le_of_lt hs0))⟩
        have := (hm.2.1 k (by rw [← HN.out]; exact hlt)).1
        rw [InR, ← HS.out, ← HC.out] at this
        omega
      have d4 : decide (16777216 < C) = false := by simp; omega
      have hin : InR (at_ l k) := by rw [InR, ← HS.out, ← HC.out]; omega
      have HI := Lib.hid hin
      clear hin
      by_cases hk0 : k = 0
      · have hd : decide (0 < k) = false := by simp; omega
        have R : Hid (Good l (k + 1)) := (show Good l (k + 1) from fun i hi => by
          rcases Nat.lt_or_ge i k with h | h
          · exact HG.out i h
          · obtain rfl : i = k := by omega
            exact ⟨HI.out, fun h0 => absurd h0 (by omega)⟩)
        clear hk0
        go_wp2
        go_quiet (fail)
        by_cases hov : 1048576 < T + 12 + 12 * C
        · go_wp2
          go_ret
          refine ⟨ret_bool (decide_eq_false fun hm => ?_).symm, hbW.trans ((below_drewN (hbel.alloc hsz _) _).mono (Nat.le_of_lt hs0))⟩
          have hmn := sizeTo_mono l l.length hm.2.1 (k + 1) l.length (by rw [← HN.out]; omega) (Nat.le_refl _)
          have h2 := hm.2.2.1
          simp only [sizeTo, ← HT.out, ← HC.out] at hmn
          omega
        · go_wp2
          go_roundw
          case rel => exact ⟨k + 1, by omega, by go_num, (show Value.int .i64 _ = Value.int .i64 _ from by simp only [sizeTo, ← HT.out, ← HC.out]; congr 1; omega), by simp only [sizeTo, ← HT.out, ← HC.out]; omega, R, below_drewN (hbel.alloc hsz _) _⟩
          case measure => simp [intOf]; omega
      · have hd : decide (0 < k) = true := by simp; omega
        have hk1 : k - 1 < l.length := by rw [← HN.out]; omega
        obtain ⟨P, hP⟩ : ∃ P, P = at_ l (k - 1) := ⟨_, rfl⟩
        have c3 := (hbel.cell (p := ⟨b, _, none⟩) hbw).trans ((hbW.cell (p := ⟨b, _, none⟩) hb).trans (HA.out.2 (k - 1) hk1).1)
        have c4 := (hbel.cell (p := ⟨b, _, none⟩) hbw).trans ((hbW.cell (p := ⟨b, _, none⟩) hb).trans (HA.out.2 (k - 1) hk1).2)
        rw [← hP] at c3 c4
        have HP := Lib.hid hP
        have hpr : InR P := by rw [hP]; exact (HG.out (k - 1) (by omega)).1
        have FT : ∀ W : World, Calls Try.prog 20 #[.agg #[.int .i64 P.1, .int .i64 P.2], .agg #[.int .i64 S, .int .i64 C]] W fun e w' => e = .returned (.bool (sideB P (at_ l k))) ∧ Below W.heap.size W w' := fun W => by
          rw [HS.out, HC.out]
          exact side_any P (at_ l k) hpr HI.out W
        have HK := Lib.hid (show 0 < k from by omega)
        have u1 : IntKind.i64.wrap ((k : Int) - 1) = (k : Int) - 1 := IntWalk.i64_in _ (by omega)
        have u2 : ((k : Int) - 1).toNat = k - 1 := by omega
        have u3 : (0 : Int) ≤ (k : Int) - 1 := by omega
        have u4 : (k : Int) - 1 < (n : Int) := by omega
        have u5 : (1 : Int) ≤ (k : Int) := by omega
        have u6 : 1 ≤ k := by omega
        clear hP hpr hk0 hk1
        cases hsb : sideB P (at_ l k)
        all_goals
          rw [hsb] at FT
          have FF := Lib.hid FT
          have HB := Lib.hid hsb
          clear FT hsb
          go_wp2
          refine wp_region_beyond (wr.heap.size + 1) (by kernel_rfl) (by kernel_rfl) ?_
          have y0 : ∀ y : Beyond (wr.heap.size + 1) (wr.alloc (.cells #[.int .i64 S, .int .i64 C] 28)), y.w.cell? ⟨wr.heap.size, 0, none⟩ = some (.int .i64 S) := fun y => (y.h.cell (p := ⟨wr.heap.size, 0, none⟩) (by simp)).trans (by simp [go_sem])
          have y1 : ∀ y : Beyond (wr.heap.size + 1) (wr.alloc (.cells #[.int .i64 S, .int .i64 C] 28)), y.w.cell? ⟨wr.heap.size, 1, none⟩ = some (.int .i64 C) := fun y => (y.h.cell (p := ⟨wr.heap.size, 1, none⟩) (by simp)).trans (by simp [go_sem])
          have y2 : ∀ y : Beyond (wr.heap.size + 1) (wr.alloc (.cells #[.int .i64 S, .int .i64 C] 28)), y.w.cell? ⟨w.heap.size, 2, none⟩ = some (.slice (some ⟨b, o, none⟩) n c) := fun y => (y.h.cell (p := ⟨w.heap.size, 2, none⟩) (by simp; omega)).trans ((World.cell?_alloc_lt wr _ ⟨w.heap.size, 2, none⟩ (by simp; omega)).trans q2)
          have y3 : ∀ y : Beyond (wr.heap.size + 1) (wr.alloc (.cells #[.int .i64 S, .int .i64 C] 28)), y.w.cell? ⟨b, o + (k - 1) * 2, none⟩ = some (.int .i64 P.1) := fun y => (y.h.cell (p := ⟨b, _, none⟩) (by simp; omega)).trans ((World.cell?_alloc_lt wr _ ⟨b, _, none⟩ (by simp; omega)).trans c3)
          have y4 : ∀ y : Beyond (wr.heap.size + 1) (wr.alloc (.cells #[.int .i64 S, .int .i64 C] 28)), y.w.cell? ⟨b, o + (k - 1) * 2 + 1, none⟩ = some (.int .i64 P.2) := fun y => (y.h.cell (p := ⟨b, _, none⟩) (by simp; omega)).trans ((World.cell?_alloc_lt wr _ ⟨b, _, none⟩ (by simp; omega)).trans c4)
          clear c1 c2 c3 c4 q0 q1 q2
          repeat (go_big_quiet_step ((exact Calls.beyond (by simp) (FF.out _))))
          refine wpQuiet_nil ?_
          rintro w1 ⟨⟨_, hb1⟩, rfl⟩
          have hb2 : Below W0.heap.size W0 w1 := (hbel.alloc hsz _).trans (hb1.mono (by omega))
          have zc : w1.cell? ⟨wr.heap.size, 1, none⟩ = some (.int .i64 C) := (hb1.cell (p := ⟨wr.heap.size, 1, none⟩) (by simp)).trans (by simp [go_sem])
          clear y0 y1 y2 y3 y4 hb1
        · go_wp2
          go_ret
          refine ⟨ret_bool (decide_eq_false fun hm => ?_).symm, hbW.trans (hb2.mono (Nat.le_of_lt hs0))⟩
          have h1 := (hm.2.1 k (by rw [← HN.out]; exact hlt)).2 HK.out
          rw [← HP.out, HB.out] at h1
          cases h1
        · have R : Hid (Good l (k + 1)) := (show Good l (k + 1) from fun i hi => by
            rcases Nat.lt_or_ge i k with h | h
            · exact HG.out i h
            · obtain rfl : i = k := by omega
              exact ⟨HI.out, fun _ => by rw [← HP.out]; exact HB.out⟩)
          by_cases hov : 1048576 < T + 12 + 12 * C
          · go_wp2
            go_ret
            refine ⟨ret_bool (decide_eq_false fun hm => ?_).symm, hbW.trans ((hb2).mono (Nat.le_of_lt hs0))⟩
            have hmn := sizeTo_mono l l.length hm.2.1 (k + 1) l.length (by rw [← HN.out]; omega) (Nat.le_refl _)
            have h2 := hm.2.2.1
            simp only [sizeTo, ← HT.out, ← HC.out] at hmn
            omega
          · go_wp2
            go_roundw
            case rel => exact ⟨k + 1, by omega, by go_num, (show Value.int .i64 _ = Value.int .i64 _ from by simp only [sizeTo, ← HT.out, ← HC.out]; congr 1; omega), by simp only [sizeTo, ← HT.out, ← HC.out]; omega, R, hb2⟩
            case measure => simp [intOf]; omega
    · obtain rfl : k = n := by omega
      have hbw : b < W0.heap.size := by omega
      have hk1 : k - 1 < l.length := by rw [← HN.out]; omega
      have aw : ArchAt wr b o l := (HA.out.below hb hbW).below hbw hbel
      have c3 := (aw.2 (k - 1) hk1).1
      have c4 := (aw.2 (k - 1) hk1).2
      have hla : at_ l (k - 1) = last_ l := by rw [last_, ← HN.out]
      rw [hla] at c3 c4
      obtain ⟨⟨i1, i2, i3, i4⟩, _⟩ := HG.out (k - 1) (by omega)
      rw [hla] at i1 i2 i3 i4
      obtain ⟨m1, m2⟩ := mul_in _ _ i1 i2 i3 i4
      obtain ⟨L, hL⟩ : ∃ L, L = last_ l := ⟨_, rfl⟩
      rw [← hL] at c3 c4 i1 i2 i3 i4 m1 m2
      have HL := Lib.hid hL
      have hmay : May g x l ↔ L.1 * L.2 ≤ 4294967295 := by
        rw [May, ← HN.out, ← HL.out, ← HT.out]
        have := HE.out
        rw [← HN.out] at this
        exact ⟨fun h => h.2.2.2, fun h => ⟨this, HG.out, htm, h⟩⟩
      have HM := Lib.hid hmay
      have u1 : ((k : Int) - 1).toNat = k - 1 := by omega
      clear hL hla aw hk1 hmay
      go_wp2
      go_ret
      exact ⟨ret_bool (by rw [decide_eq_decide]; exact HM.out.symm), hbW.trans ((hbel.alloc hsz _).mono (Nat.le_of_lt hs0))⟩
end Go.Proofs.Ytcfcdajglfipeaa
