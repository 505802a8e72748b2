/-
  The walk of known.
-/
import Derived.Test.YtldcbkememonaaaPi
import Derived.Test.YtldcbkememonaaaG4

namespace Go.Proofs.Ytldcbkememonaaa
open Go.RowKit
set_option linter.unusedVariables false
set_option linter.unusedSimpArgs false

theorem kn_plain : ∀ p, p < kn0.size → by_ kn0 p ≠ 46 ∧ by_ kn0 p ≠ 91 ∧ by_ kn0 p ≠ 92 := by decide +kernel
instance (x : Int) : Decidable (wf64 x) := by unfold wf64; infer_instance
theorem kn_lok : LOk (compF kn0).2.1 := ⟨by decide +kernel, by decide +kernel, by decide +kernel⟩
/-- only memory was made -/
def TrueP (b : Bool) (w : World) (e : Ending) (w' : World) : Prop := e = .returned (.bool b) ∧ Grow w w'
theorem of_lit (s : ByteArray) (h : ∀ p, p < s.size → by_ s p ≠ 46 ∧ by_ s p ≠ 91 ∧ by_ s p ≠ 92) (hs : s.size ≤ 10000) (hl : (compF s).2.1.length ≤ 30000) (w : World) : Calls Try.prog 16 #[.string s] w (OfP s w) :=
  of16_any s w hs (set_ok s hs h) hl
/-- a program in memory, as rex's -/
theorem of_rd {B : Nat} {L : List Ins} {lv : Value} {w : World} (h : w.ownsRow B 26 4 lv L.length (cellsI L)) : ∃ a c g, lv = .slice a L.length c ∧ RdI L g 0 w ∧ (0 < L.length → a = some ⟨g, 0, none⟩) := by
  obtain ⟨a, c, rfl, _⟩ := own_shape h
  by_cases h0 : 0 < L.length
  · obtain ⟨g, c', e, _, _⟩ := h.form h0
    injection e with e1 _ e2
    subst e1 e2
    exact ⟨_, _, g, rfl, rdI_own26 h rfl, fun _ => rfl⟩
  · have : L = [] := List.eq_nil_of_length_eq_zero (by omega)
    subst this
    exact ⟨_, _, 0, rfl, fun k i hk => by simp at hk, fun h => absurd h (by simp)⟩
set_option maxRecDepth 100000 in
set_option maxHeartbeats 2000000 in
theorem known_any (w : World) : Calls Try.prog 15 #[] w (TrueP true w) := by
  obtain ⟨gq, hgq⟩ : ∃ gq, gq = (compF kn0).1 := ⟨_, rfl⟩
  obtain ⟨L, hL⟩ : ∃ L, L = (compF kn0).2.1 := ⟨_, rfl⟩
  have OFK := fun w => of_lit kn0 kn_plain (by decide) (by have := kn_len; omega) w
  have FD := kn_find
  have LO := kn_lok
  unfold OfP at OFK
  rw [← hgq, ← hL] at FD
  rw [← hL] at LO
  simp only [kn_ok, ← hL, ← hgq] at OFK
  have OFK1 := Lib.hid OFK
  have HFD := Lib.hid FD
  have HLO := Lib.hid LO
  clear FD LO hL hgq OFK
  have NM := Lib.hid (fun v u w (h1 : IntsIn [0, 4, 0, 1, 1, 4] v w) (h2 : IntsIn [0, 4, 0, 1, 1, 4] u w) => numbers_any [0, 4, 0, 1, 1, 4] [0, 4, 0, 1, 1, 4] v u w h1 h2 (by decide) (by decide))
  go_enter Try.func15, Try.ntmps15
  go_wp2_with fail
  refine (OFK1.out w).mono ?_
  rintro e w1 ⟨lv, rfl, own1, g1⟩
  obtain ⟨a, c, g, rfl, rd, had⟩ := of_rd own1
  obtain ⟨n, hn⟩ : ∃ n, n = L.length := ⟨_, rfl⟩
  have FN := Lib.hid (fun w' (h : Grow w1 w') => find_any L kn1 gq 0 (some [0, 4, 0, 1, 1, 4]) HFD.out w' a c g 0 (rd.grow h) had HLO.out (by decide))
  have G1 := Lib.hid g1
  rw [← hn] at FN ⊢
  clear own1 g1 rd had hn OFK1
  go_wp2_with fail
  refine (FN.out _ ((Grow.refl w1).alloc _)).mono ?_
  rintro e w2 ⟨v2, rfl, f2, g2⟩
  have F2 := Lib.hid (show IntsIn [0, 4, 0, 1, 1, 4] v2 w2 from f2)
  have G2 := Lib.hid (show Grow w w2 from G1.out.trans (Below.trans (Below.mono ((Grow.refl w1).alloc _) (Nat.le_refl _)) (Below.mono g2 (by simp))))
  clear f2 g2 FN
  have LT := Lib.hid (show IntsIn [0, 4, 0, 1, 1, 4] (.slice (some ⟨w2.heap.size, 0, none⟩) 6 6) (w2.alloc (.cells #[.int .i64 0, .int .i64 4, .int .i64 0, .int .i64 1, .int .i64 1, .int .i64 4] 3)) from by
    have := World.ownsRow_lit (base := 0) (e := 3) (size := 1) w2 #[.int .i64 0, .int .i64 4, .int .i64 0, .int .i64 1, .int .i64 1, .int .i64 4] 6 (Nat.zero_le _) (by unfold maxLen; omega) (by simp)
    simpa [IntsIn] using this)
  have V2 := Lib.hid (F2.out.grow ((Grow.refl w2).alloc (.cells #[.int .i64 0, .int .i64 4, .int .i64 0, .int .i64 1, .int .i64 1, .int .i64 4] 3)))
  go_wp2_with fail
  refine (NM.out _ _ _ V2.out LT.out).mono ?_
  rintro e w3 ⟨rfl, g3⟩
  have G3 := Lib.hid (show Grow w w3 from Below.trans G2.out (Below.mono (((Grow.refl w2).alloc (.cells #[.int .i64 0, .int .i64 4, .int .i64 0, .int .i64 1, .int .i64 1, .int .i64 4] 3)).trans g3) (Grow.size G2.out)))
  clear g3
  go_wp2
  go_ret
  exact ⟨rfl, G3.out⟩
end Go.Proofs.Ytldcbkememonaaa
