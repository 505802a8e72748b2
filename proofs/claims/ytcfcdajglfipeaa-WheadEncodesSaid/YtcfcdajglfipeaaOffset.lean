/-
  The walks of Offset and of known.
-/
import Derived.Test.YtcfcdajglfipeaaOffs
namespace Go.Proofs.Ytcfcdajglfipeaa
open Go.RowKit

/-- where an archive begins -/
def offTo (l : List (Int × Int)) (k : Nat) : Int := sizeTo l k + 12 * ((l.length : Int) - k)
theorem offTo_zero (l : List (Int × Int)) : offTo l 0 = 16 + 12 * l.length := by simp [offTo, sizeTo]
theorem offTo_succ (l : List (Int × Int)) (k : Nat) : offTo l (k + 1) = offTo l k + 12 * (at_ l k).2 := by simp only [offTo, sizeTo]; omega

theorem offset_bad (g x i : Int) (ao : Option Addr) (n c : Nat) (l : List (Int × Int)) (w : World) (h : Hd w ao n c l) (hm : ¬ May g x l) :
    Calls Try.prog 7 #[.agg #[.int .i64 g, .int .i64 x, .slice ao n c], .int .i64 i] w fun e w' => e = .returned (.int .i64 0) ∧ Below w.heap.size w w' := by
  have CH := Lib.hid (check_not h hm)
  clear h hm
  go_enter Try.func7, Try.ntmps7
  go_wp2_with fail
  refine (CH.out _ ((Grow.refl w).alloc _)).mono ?_
  rintro e w1 ⟨rfl, b1⟩
  go_wp2
  go_ret
  exact ⟨rfl, ((Below.refl _ _).alloc (Nat.le_refl _) _).trans (b1.mono (by simp))⟩

theorem offset_out (g x i : Int) (ao : Option Addr) (n c : Nat) (l : List (Int × Int)) (w : World) (h : Hd w ao n c l) (hm : May g x l) (hi : i < 0 ∨ (n : Int) ≤ i) :
    Calls Try.prog 7 #[.agg #[.int .i64 g, .int .i64 x, .slice ao n c], .int .i64 i] w fun e w' => e = .returned (.int .i64 0) ∧ Below w.heap.size w w' := by
  have CH := Lib.hid (check_yes h hm)
  clear h hm
  by_cases h1 : i < 0
  · clear hi
    go_enter Try.func7, Try.ntmps7
    go_wp2_with fail
    refine (CH.out _ ((Grow.refl w).alloc _)).mono ?_
    rintro e w1 ⟨rfl, b1⟩
    go_wp2
    go_ret
    exact ⟨rfl, ((Below.refl _ _).alloc (Nat.le_refl _) _).trans (b1.mono (by simp))⟩
  · have h2 : (n : Int) ≤ i := by omega
    clear hi
    go_enter Try.func7, Try.ntmps7
    go_wp2_with fail
    refine (CH.out _ ((Grow.refl w).alloc _)).mono ?_
    rintro e w1 ⟨rfl, b1⟩
    have q2 : w1.cell? ⟨w.heap.size, 2, none⟩ = some (.slice ao n c) := (b1.cell (p := ⟨w.heap.size, 2, none⟩) (by simp)).trans (by simp [go_sem])
    go_wp2
    go_ret
    exact ⟨rfl, ((Below.refl _ _).alloc (Nat.le_refl _) _).trans (b1.mono (by simp))⟩

set_option maxHeartbeats 1000000 in
theorem offset_yes (g x : Int) (b o n c j : Nat) (l : List (Int × Int)) (w : World) (h : Hd w (some ⟨b, o, none⟩) n c l) (hm : May g x l) (hj : j < n) :
    Calls Try.prog 7 #[.agg #[.int .i64 g, .int .i64 x, .slice (some ⟨b, o, none⟩) n c], .int .i64 j] w fun e w' => e = .returned (.int .i64 (offTo l j)) ∧ Below w.heap.size w w' := by
  have CH := Lib.hid (check_yes h hm)
  obtain ⟨n1, n8⟩ := h.ear hm
  obtain ⟨b', o', e, ha⟩ := h.2.2.2 (by omega)
  injection e with e
  injection e with e1 e2 _
  subst e1 e2
  have hb := ha.1
  have hc := h.2.1
  have HA := Lib.hid ha
  have HN := Lib.hid h.1
  have HG := Lib.hid hm.2.1
  have j0 : (0 : Int) ≤ (j : Int) := by omega
  have j1 : (j : Int) < (n : Int) := by omega
  have j2 : (j : Int) ≤ (c : Int) := by omega
  have e0 : offTo l 0 = 16 + 12 * (n : Int) := by rw [offTo_zero, h.1]
  have E0 := Lib.hid e0
  clear h hm ha e0
  go_enter Try.func7, Try.ntmps7
  go_wp2_with fail
  refine (CH.out _ ((Grow.refl w).alloc _)).mono ?_
  rintro e w1 ⟨rfl, b1⟩
  have q2 : w1.cell? ⟨w.heap.size, 2, none⟩ = some (.slice (some ⟨b, o, none⟩) n c) := (b1.cell (p := ⟨w.heap.size, 2, none⟩) (by simp)).trans (by simp [go_sem])
  have g1 : Grow w w1 := ((Grow.refl w).alloc _).trans b1
  clear b1
  go_wp2
  go_loopw [5, 32] (fun t i wr => ∃ k : Nat, k ≤ j ∧ i = .int .i64 k ∧ t = .int .i64 (offTo l k) ∧ Below w.heap.size w wr) (fun _ i _ => j - (intOf i).toNat)
  case atStart => exact ⟨0, by omega, rfl, by rw [E0.out], g1⟩
  case round =>
    obtain ⟨k, hk, rfl, rfl, hbel⟩ := hrel
    by_cases hlt : k < j
    · have hkl : k < l.length := by rw [HN.out]; omega
      have c1 := (hbel.cell (p := ⟨b, _, none⟩) hb).trans (HA.out.2 k hkl).1
      have c2 := (hbel.cell (p := ⟨b, _, none⟩) hb).trans (HA.out.2 k hkl).2
      obtain ⟨t1, t2⟩ := sizeTo_in l l.length HG.out k (by omega)
      obtain ⟨⟨_, _, a3, a4⟩, _⟩ := HG.out k hkl
      obtain ⟨T, hT⟩ : ∃ T, T = offTo l k := ⟨_, rfl⟩
      have t3 : 16 ≤ T := by rw [hT, offTo, HN.out]; omega
      have t4 : T ≤ 2000000000 := by rw [hT, offTo, HN.out]; omega
      rw [← hT]
      have HT := Lib.hid hT
      clear hT t1 t2 hkl
      go_wp2
      go_roundw
      case rel => exact ⟨k + 1, by omega, by go_num, by rw [offTo_succ, ← HT.out], hbel.alloc hbel.size _⟩
      case measure => simp [intOf]; omega
    · obtain rfl : k = j := by omega
      go_wp2
      go_ret
      exact ⟨rfl, hbel⟩

def knownL : List (Int × Int) := [(1, 60), (60, 5)]
theorem known_may : May 2 0 knownL := by decide
theorem known_any (w : World) : Calls Try.prog 9 #[] w fun e w' => e = .returned (.bool true) ∧ Below w.heap.size w w' := by
  go_enter Try.func9, Try.ntmps9
  go_wp2_with fail
  obtain ⟨W0, hW⟩ : ∃ W0, W0 = (w.alloc (.cells #[.int .i64 1, .int .i64 60, .int .i64 60, .int .i64 5] 28)).alloc (.cells #[.int .i64 2, .int .i64 0, .slice (some ⟨w.heap.size, 0, none⟩) 2 2] 24) := ⟨_, rfl⟩
  have hd : Hd W0 (some ⟨w.heap.size, 0, none⟩) 2 2 knownL := by
    refine ⟨rfl, by omega, fun i hi => ?_, fun _ => ⟨_, _, rfl, ?_, fun i hi => ?_⟩⟩
    · match i, hi with
      | 0, _ => exact ⟨⟨by decide, by decide⟩, ⟨by decide, by decide⟩⟩
      | 1, _ => exact ⟨⟨by decide, by decide⟩, ⟨by decide, by decide⟩⟩
    · rw [hW]; simp; omega
    · rw [hW]
      match i, hi with
      | 0, _ => exact ⟨by simp [go_sem, knownL, at_], by simp [go_sem, knownL, at_]⟩
      | 1, _ => exact ⟨by simp [go_sem, knownL, at_], by simp [go_sem, knownL, at_]⟩
  have b0 : Grow w W0 := by rw [hW]; exact ((Grow.refl w).alloc _).alloc _
  have q0 : W0.cell? ⟨w.heap.size + 1, 0, none⟩ = some (.int .i64 2) := by rw [hW]; simp [go_sem]
  have q1 : W0.cell? ⟨w.heap.size + 1, 1, none⟩ = some (.int .i64 0) := by rw [hW]; simp [go_sem]
  have q2 : W0.cell? ⟨w.heap.size + 1, 2, none⟩ = some (.slice (some ⟨w.heap.size, 0, none⟩) 2 2) := by rw [hW]; simp [go_sem]
  have hs : w.heap.size + 1 < W0.heap.size := by rw [hW]; simp
  rw [← hW]
  clear hW
  refine (size_yes 2 0 w.heap.size 0 2 2 knownL W0 hd known_may).mono ?_
  rintro e w1 ⟨rfl, b1⟩
  rw [show sizeTo knownL 2 = 820 from rfl]
  have HD := Lib.hid (hd.grow b1)
  have r0 := (b1.cell (p := ⟨w.heap.size + 1, 0, none⟩) hs).trans q0
  have r1 := (b1.cell (p := ⟨w.heap.size + 1, 1, none⟩) hs).trans q1
  have r2 := (b1.cell (p := ⟨w.heap.size + 1, 2, none⟩) hs).trans q2
  have g1 := b0.trans b1
  clear hd q0 q1 q2 b0 b1 hs
  go_wp2_with fail
  refine (span_yes 2 0 w.heap.size 0 2 2 knownL w1 HD.out known_may).mono ?_
  rintro e w2 ⟨rfl, b2⟩
  rw [show (last_ knownL).1 * (last_ knownL).2 = 300 from rfl]
  go_wp2
  go_ret
  exact ⟨rfl, g1.trans b2⟩

theorem fixed_no (g x : Int) (ao : Option Addr) (n c : Nat) (l : List (Int × Int)) (w : World) (h : Hd w ao n c l) (hn : 60 < n ∨ ¬ May g x l) :
    Calls Try.prog 3 #[.agg #[.int .i64 g, .int .i64 x, .slice ao n c]] w fun e w' => e = .returned (.bool true) ∧ Below w.heap.size w w' := by
  by_cases h1 : 60 < n
  · have h1' : (60 : Int) < (n : Int) := by omega
    clear hn h
    go_enter Try.func3, Try.ntmps3
    go_wp2
    go_ret
    exact ⟨rfl, (Below.refl _ _).alloc (Nat.le_refl _) _⟩
  · have hm : ¬ May g x l := hn.resolve_left h1
    have h1' : ¬ (60 : Int) < (n : Int) := by omega
    have CH := Lib.hid (may_hd g x ao n c l _ (h.grow ((Grow.refl w).alloc (.cells #[.int .i64 g, .int .i64 x, .slice ao n c] 24))))
    have hd : decide (May g x l) = false := decide_eq_false hm
    have HD := Lib.hid hd
    clear hn h hm hd h1
    go_enter Try.func3, Try.ntmps3
    go_wp2_with fail
    refine CH.out.mono ?_
    rintro e w1 ⟨rfl, b1⟩
    rw [HD.out]
    go_wp2
    go_ret
    exact ⟨rfl, ((Below.refl _ _).alloc (Nat.le_refl _) _).trans (b1.mono (by simp))⟩

set_option maxHeartbeats 1000000 in
theorem fixed_yes (g x : Int) (b o n c : Nat) (l : List (Int × Int)) (w : World) (h : Hd w (some ⟨b, o, none⟩) n c l) (hm : May g x l) :
    Calls Try.prog 3 #[.agg #[.int .i64 g, .int .i64 x, .slice (some ⟨b, o, none⟩) n c]] w fun e w' => e = .returned (.bool true) ∧ Below w.heap.size w w' := by
  obtain ⟨n1, n8⟩ := h.ear hm
  have h1' : ¬ (60 : Int) < (n : Int) := by omega
  have CH := Lib.hid (may_hd g x _ n c l _ (h.grow ((Grow.refl w).alloc (.cells #[.int .i64 g, .int .i64 x, .slice (some ⟨b, o, none⟩) n c] 24))))
  have hd : decide (May g x l) = true := decide_eq_true hm
  have HD := Lib.hid hd
  have H := Lib.hid h
  have HM := Lib.hid hm
  obtain ⟨b', o', e, ha⟩ := h.2.2.2 (by omega)
  injection e with e
  injection e with e1 e2 _
  subst e1 e2
  have hb := ha.1
  have HA := Lib.hid ha
  have HN := Lib.hid h.1
  have HG := Lib.hid hm.2.1
  have e0 : offTo l 0 = 16 + 12 * (n : Int) := by rw [offTo_zero, h.1]
  have E0 := Lib.hid e0
  clear h hm hd ha e0
  go_enter Try.func3, Try.ntmps3
  go_wp2_with fail
  refine CH.out.mono ?_
  rintro e w1 ⟨rfl, b1⟩
  rw [HD.out]
  have q0 : w1.cell? ⟨w.heap.size, 0, none⟩ = some (.int .i64 g) := (b1.cell (p := ⟨w.heap.size, 0, none⟩) (by simp)).trans (by simp [go_sem])
  have q1 : w1.cell? ⟨w.heap.size, 1, none⟩ = some (.int .i64 x) := (b1.cell (p := ⟨w.heap.size, 1, none⟩) (by simp)).trans (by simp [go_sem])
  have q2 : w1.cell? ⟨w.heap.size, 2, none⟩ = some (.slice (some ⟨b, o, none⟩) n c) := (b1.cell (p := ⟨w.heap.size, 2, none⟩) (by simp)).trans (by simp [go_sem])
  have g1 : Grow w w1 := ((Grow.refl w).alloc _).trans b1
  have hs1 : w.heap.size < w1.heap.size := by have := b1.size; simp at this; omega
  clear b1 CH HD
  go_wp2
  go_loopw [3, 4] (fun t i wr => ∃ k : Nat, k ≤ n ∧ i = .int .i64 k ∧ t = .int .i64 (offTo l k) ∧ Grow w1 wr) (fun _ i _ => n - (intOf i).toNat)
  case atStart => exact ⟨0, by omega, rfl, by rw [E0.out], Grow.refl _⟩
  case round =>
    obtain ⟨k, hk, rfl, rfl, hgr⟩ := hrel
    have r0 := (Below.cell hgr (p := ⟨w.heap.size, 0, none⟩) hs1).trans q0
    have r1 := (Below.cell hgr (p := ⟨w.heap.size, 1, none⟩) hs1).trans q1
    have r2 := (Below.cell hgr (p := ⟨w.heap.size, 2, none⟩) hs1).trans q2
    by_cases hlt : k < n
    · have hkl : k < l.length := by rw [HN.out]; exact hlt
      have OF := Lib.hid (offset_yes g x b o n c k l wr (H.out.grow (g1.trans hgr)) HM.out hlt)
      obtain ⟨t1, t2⟩ := sizeTo_in l l.length HG.out k (by omega)
      obtain ⟨⟨_, _, a3, a4⟩, _⟩ := HG.out k hkl
      obtain ⟨T, hT⟩ : ∃ T, T = offTo l k := ⟨_, rfl⟩
      have t3 : 16 ≤ T := by rw [hT, offTo, HN.out]; omega
      have t4 : T ≤ 2000000000 := by rw [hT, offTo, HN.out]; omega
      have c2 := (Below.cell (g1.trans hgr) (p := ⟨b, _, none⟩) hb).trans (HA.out.2 k hkl).2
      rw [← hT] at OF ⊢
      have HT := Lib.hid hT
      have hs2 : w.heap.size < wr.heap.size := Nat.lt_of_lt_of_le hs1 hgr.size
      have hs3 : b < wr.heap.size := by omega
      clear hT t1 t2 hkl
      go_wp2_with fail
      refine OF.out.mono ?_
      rintro e w2 ⟨rfl, b2⟩
      have z2 := (b2.cell (p := ⟨w.heap.size, 2, none⟩) hs2).trans r2
      have zc := (b2.cell (p := ⟨b, _, none⟩) hs3).trans c2
      clear OF r0 r1 r2 c2
      go_wp2
      go_roundw
      case rel => exact ⟨k + 1, by omega, by go_num, by rw [offTo_succ, ← HT.out], hgr.trans b2⟩
      case measure => simp [intOf]; omega
    · obtain rfl : k = n := by omega
      have SZ := Lib.hid (size_yes g x b o k c l wr (H.out.grow (g1.trans hgr)) HM.out)
      have hl : offTo l k = sizeTo l k := by rw [offTo, HN.out]; omega
      rw [hl]
      go_wp2_with fail
      refine SZ.out.mono ?_
      rintro e w2 ⟨rfl, b2⟩
      clear SZ hl r0 r1 r2
      go_wp2_with fail
      refine (known_any w2).mono ?_
      rintro e w3 ⟨rfl, b3⟩
      go_wp2
      go_ret
      exact ⟨rfl, ((g1.trans hgr).trans b2).trans b3⟩

/-- The law, whatever header comes in. -/
theorem fixed_any (g x : Int) (ao : Option Addr) (n c : Nat) (l : List (Int × Int)) (w : World) (h : Hd w ao n c l) :
    Calls Try.prog 3 #[.agg #[.int .i64 g, .int .i64 x, .slice ao n c]] w fun e w' => e = .returned (.bool true) ∧ Below w.heap.size w w' := by
  by_cases hn : 60 < n ∨ ¬ May g x l
  · exact fixed_no g x ao n c l w h hn
  · have hm : May g x l := Classical.byContradiction fun hx => hn (.inr hx)
    obtain ⟨b, o, rfl, _⟩ := h.2.2.2 (by have := h.ear hm; omega)
    exact fixed_yes g x b o n c l w h hm
end Go.Proofs.Ytcfcdajglfipeaa
