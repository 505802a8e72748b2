/-
  The walk of PikeTimes.
-/
import Derived.Test.YtldcbkememonaaaPl
import Derived.Test.YtldcbkememonaaaJ2
import Derived.Test.YtldcbkememonaaaG8

namespace Go.Proofs.Ytldcbkememonaaa
open Go.RowKit
set_option linter.unusedVariables false
set_option linter.unusedSimpArgs false

theorem by_app_l (a b : ByteArray) (k : Nat) (h : k < a.size) : by_ (a ++ b) k = by_ a k := by
  rw [by_at _ k (by rw [ByteArray.size_append]; omega), by_at a k h]
  congr 1
  exact ByteArray.getElem_append_left h
theorem by_app_r (a b : ByteArray) (k : Nat) (h : k < b.size) : by_ (a ++ b) (a.size + k) = by_ b k := by
  rw [by_at _ _ (by rw [ByteArray.size_append]; omega), by_at b k h]
  congr 1
  rw [ByteArray.getElem_append_right (by omega)]
  congr 1
  omega
def kA : ByteArray := ⟨#[97, 42]⟩
def kQ : ByteArray := ⟨#[97, 42, 63]⟩
def kR : ByteArray := ⟨#[40, 97, 124, 97, 97, 41, 42, 36]⟩
theorem kA_plain : ∀ p, p < kA.size → by_ kA p ≠ 46 ∧ by_ kA p ≠ 91 ∧ by_ kA p ≠ 92 := by decide +kernel
theorem kQ_plain : ∀ p, p < kQ.size → by_ kQ p ≠ 46 ∧ by_ kQ p ≠ 91 ∧ by_ kQ p ≠ 92 := by decide +kernel
theorem kR_plain : ∀ p, p < kR.size → by_ kR p ≠ 46 ∧ by_ kR p ≠ 91 ∧ by_ kR p ≠ 92 := by decide +kernel
theorem LA_ok : LOk LA := ⟨by decide +kernel, by decide +kernel, by decide +kernel⟩
theorem LQ_ok : LOk LQ := ⟨by decide +kernel, by decide +kernel, by decide +kernel⟩
theorem LR_ok : LOk LR := ⟨by decide +kernel, by decide +kernel, by decide +kernel⟩
/-- what 'of' leaves, of a literal -/
def OfL (L : List Ins) (gr : Nat) (w : World) (e : Ending) (w' : World) : Prop := ∃ lv, e = .returned (.tuple #[.agg #[.int .i64 gr, lv], .bool true]) ∧ w'.ownsRow w.heap.size 26 4 lv L.length (cellsI L) ∧ Grow w w'
theorem of_known (s : ByteArray) (h : ∀ p, p < s.size → by_ s p ≠ 46 ∧ by_ s p ≠ 91 ∧ by_ s p ≠ 92) (hs : s.size ≤ 10000) (gr : Nat) (L : List Ins) (hc : compF s = (gr, L, 0)) (hl : L.length ≤ 30000) (w : World) : Calls Try.prog 16 #[.string s] w (OfL L gr w) := by
  have := of_lit s h hs (by rw [hc]; exact hl) w
  unfold OfP at this
  rw [hc] at this
  exact this
set_option maxRecDepth 100000 in
set_option maxHeartbeats 8000000 in
theorem ptimes_any (n : Int) (more : ByteArray) (w : World) : Calls Try.prog 6 #[.int .i64 n, .string more] w (TrueP true w) := by
  have KN := Lib.hid known_any
  have early : n < 0 ∨ 50 < n ∨ 60 < more.size → Calls Try.prog 6 #[.int .i64 n, .string more] w (TrueP true w) := fun hh => by
    by_cases h1 : n < 0
    · clear hh
      go_enter Try.func6, Try.ntmps6
      go_wp2_with fail
      refine (KN.out _).mono ?_
      rintro e w6 ⟨rfl, g6⟩
      have G6 := Lib.hid g6
      clear g6
      go_wp2
      go_ret
      exact ⟨rfl, G6.out⟩
    · by_cases h2 : 50 < n
      · clear hh
        go_enter Try.func6, Try.ntmps6
        go_wp2_with fail
        refine (KN.out _).mono ?_
        rintro e w6 ⟨rfl, g6⟩
        have G6 := Lib.hid g6
        clear g6
        go_wp2
        go_ret
        exact ⟨rfl, G6.out⟩
      · have h3 : 60 < more.size := by omega
        clear hh
        go_enter Try.func6, Try.ntmps6
        go_wp2_with fail
        refine (KN.out _).mono ?_
        rintro e w6 ⟨rfl, g6⟩
        have G6 := Lib.hid g6
        clear g6
        go_wp2
        go_ret
        exact ⟨rfl, G6.out⟩
  by_cases h1 : n < 0
  · exact early (.inl h1)
  · by_cases h2 : 50 < n
    · exact early (.inr (.inl h2))
    · by_cases h3 : 60 < more.size
      · exact early (.inr (.inr h3))
      · clear early
        obtain ⟨N, rfl⟩ : ∃ N : Nat, n = N := ⟨n.toNat, by omega⟩
        have hN : N ≤ 50 := by omega
        go_enter Try.func6, Try.ntmps6
        go_wp2
        go_loop [5, 6] (fun t5 t6 => ∃ (j : Nat) (x : ByteArray), j ≤ N ∧ t5 = .string x ∧ t6 = .int .i64 j ∧ Hid (x.size = j ∧ ∀ k, k < j → by_ x k = 97)) (fun _ t6 => N - (intOf t6).toNat)
        case atStart => exact ⟨0, _, by omega, rfl, rfl, Lib.hid ⟨rfl, fun k hk => absurd hk (by omega)⟩⟩
        case round =>
          obtain ⟨j, x, hj, rfl, rfl, HX⟩ := hrel
          have k0 : (0 : Int) ≤ (j : Int) := by omega
          by_cases hlt : j < N
          · have k1 : (j : Int) < (N : Int) := by omega
            have hxz : ¬ 9223372036854775807 < x.size + 1 := by have := HX.out.1; omega
            go_wp2
            go_round
            case rel => exact ⟨j + 1, _, by omega, rfl, by go_num, Lib.hid (by
              obtain ⟨hx1, hx2⟩ := HX.out
              refine ⟨by rw [ByteArray.size_append, hx1]; rfl, fun k hk => ?_⟩
              by_cases e : k = j
              · subst e
                have := by_app_r x ⟨#[97]⟩ 0 (by decide)
                rw [hx1] at this
                rw [show k = k + 0 from rfl, this]
                rfl
              · rw [by_app_l x _ k (by omega)]
                exact hx2 k (by omega))⟩
            case measure => simp [intOf]; omega
          · have k1 : ¬ (j : Int) < (N : Int) := by omega
            obtain rfl : N = j := by omega
            go_wp2
            go_loop [7, 8] (fun t7 t8 => ∃ (i : Nat), i ≤ more.size ∧ t7 = .int .i64 ((N : Int) + (i : Int)) ∧ t8 = .int .i64 i ∧ Hid (∀ k, k < i → by_ more k = 97)) (fun _ t8 => more.size - (intOf t8).toNat)
            case atStart => exact ⟨0, by omega, by simp, rfl, Lib.hid (fun k hk => absurd hk (by omega))⟩
            case round =>
              obtain ⟨i, hi, rfl, rfl, HM⟩ := hrel
              have i0 : (0 : Int) ≤ (i : Int) := by omega
              have i5 : (i : Int) ≤ 60 := by omega
              obtain ⟨hx1, hx2⟩ := HX.out
              have RUN : ¬ (∃ h : i < more.size, by_ more i = 97) → Runs (x ++ more) (N + i) := fun hno => by
                refine ⟨by rw [ByteArray.size_append, hx1]; omega, fun k hk => ?_, fun hlt => ?_⟩
                · by_cases e : k < N
                  · rw [by_app_l x more k (by omega)]; exact hx2 k e
                  · obtain ⟨d, rfl⟩ : ∃ d, k = x.size + d := ⟨k - x.size, by omega⟩
                    rw [by_app_r x more d (by omega)]
                    exact HM.out d (by omega)
                · rw [ByteArray.size_append, hx1] at hlt
                  rw [← hx1, by_app_r x more i (by omega)]
                  intro e
                  exact hno ⟨by omega, e⟩
              have HRUN := Lib.hid RUN
              have HXA := Lib.hid hx2
              have hxs : x.size ≤ 50 := by omega
              have HX1 := Lib.hid hx1
              clear hx1 hx2 RUN
              have FIN : Runs (x ++ more) (N + i) → True := fun _ => trivial
              clear FIN
              by_cases hlt : i < more.size
              · have k1 : (i : Int) < (more.size : Int) := by omega
                obtain ⟨cb, hcb⟩ : ∃ cb, cb = by_ more i := ⟨_, rfl⟩
                have ecb : more[i].toNat = cb := by rw [hcb, by_at more i hlt]
                have HCB := Lib.hid hcb
                clear hcb
                cases hc : ((cb : Int) == 97) with
                | true =>
                  have HC := Lib.hid (show cb = 97 from by simp at hc; omega)
                  go_wp2
                  go_round
                  case rel => exact ⟨i + 1, by omega, by go_num, by go_num, Lib.hid (fun k hk => by
                    by_cases e : k = i
                    · subst e; rw [← HCB.out, HC.out]
                    · exact HM.out k (by omega))⟩
                  case measure => simp [intOf]; omega
                | false =>
                  have HC := Lib.hid (show ¬ cb = 97 from by simp at hc; omega)
                  have RU := Lib.hid (HRUN.out (fun ⟨_, h⟩ => HC.out (by rw [HCB.out]; exact h)))
                  clear HRUN
                  have hxz : ¬ 9223372036854775807 < x.size + more.size := by omega
                  have OA := Lib.hid (of_known kA kA_plain (by decide) 0 LA comp_A (by decide))
                  have OQ := Lib.hid (of_known kQ kQ_plain (by decide) 0 LQ comp_Q (by decide))
                  have OR := Lib.hid (of_known kR kR_plain (by decide) 1 LR comp_R (by decide))
                  go_wp2_with fail
                  refine (OA.out _).mono ?_
                  rintro e w1 ⟨lv, rfl, own1, g1⟩
                  obtain ⟨aa, ca, ga, rfl, rda, hada⟩ := of_rd own1
                  have FA := Lib.hid (fun w' (h : Grow w1 w') => find_any LA (x ++ more) 0 0 _ (star_find _ _ RU.out) w' aa ca ga 0 (rda.grow h) hada LA_ok (by rw [ByteArray.size_append]; omega))
                  have G1 := Lib.hid g1
                  obtain ⟨W1, hW1⟩ : ∃ W1, W1 = w1.alloc (.cells #[.int .i64 0, .slice aa LA.length ca] 24) := ⟨_, rfl⟩
                  have b1 := heap_alloc_new w1 (.cells #[.int .i64 0, .slice aa LA.length ca] 24)
                  have h1 : Grow w1 W1 := by rw [hW1]; exact (Grow.refl w1).alloc _
                  rw [← hW1] at b1
                  have H1 := Lib.hid h1
                  have B1 := Lib.hid b1
                  have HW1 := Lib.hid hW1
                  clear own1 g1 rda hada OA hW1 h1 b1
                  go_wp2_with fail
                  rw [← HW1.out]
                  refine (OQ.out _).mono ?_
                  rintro e w2 ⟨lv, rfl, own2, g2⟩
                  obtain ⟨aq, cq, gq, rfl, rdq, hadq⟩ := of_rd own2
                  have FQ := Lib.hid (fun w' (h : Grow w2 w') => find_any LQ (x ++ more) 0 0 _ (lazy_find _) w' aq cq gq 0 (rdq.grow h) hadq LQ_ok (by rw [ByteArray.size_append]; omega))
                  have G2 := Lib.hid g2
                  obtain ⟨W2, hW2⟩ : ∃ W2, W2 = w2.alloc (.cells #[.int .i64 0, .slice aq LQ.length cq] 24) := ⟨_, rfl⟩
                  have b2 := heap_alloc_new w2 (.cells #[.int .i64 0, .slice aq LQ.length cq] 24)
                  have h2 : Grow w2 W2 := by rw [hW2]; exact (Grow.refl w2).alloc _
                  rw [← hW2] at b2
                  have H2 := Lib.hid h2
                  have B2 := Lib.hid b2
                  have HW2 := Lib.hid hW2
                  clear own2 g2 rdq hadq OQ hW2 h2 b2
                  go_wp2_with fail
                  rw [← HW2.out]
                  refine (OR.out _).mono ?_
                  rintro e w3 ⟨lv, rfl, own3, g3⟩
                  obtain ⟨ar, cr, gr, rfl, rdr, hadr⟩ := of_rd own3
                  obtain ⟨RR, hRR, hRs⟩ := star_is x (fun k hk => HXA.out k (by have := HX1.out; omega))
                  have FR := Lib.hid (fun w' (h : Grow w3 w') => is17_any LR x 1 RR hRR w' ar cr gr 0 (rdr.grow h) hadr LR_ok (by omega))
                  have HRS := Lib.hid hRs
                  have G3 := Lib.hid g3
                  obtain ⟨W3, hW3⟩ : ∃ W3, W3 = w3.alloc (.cells #[.int .i64 1, .slice ar LR.length cr] 24) := ⟨_, rfl⟩
                  have b3 := heap_alloc_new w3 (.cells #[.int .i64 1, .slice ar LR.length cr] 24)
                  have h3' : Grow w3 W3 := by rw [hW3]; exact (Grow.refl w3).alloc _
                  rw [← hW3] at b3
                  have H3 := Lib.hid h3'
                  have b1 := (Below.block (G2.out.trans2 (H2.out.trans2 (G3.out.trans2 h3'))) _ (lt_blk B1.out)).trans B1.out
                  have b2 := (Below.block (G3.out.trans2 h3') _ (lt_blk B2.out)).trans B2.out
                  have a0 := cell_blk b1 0
                  have a1 := cell_blk b1 1
                  have c0 := cell_blk b2 0
                  have c1 := cell_blk b2 1
                  have d0 := cell_blk b3 0
                  have d1 := cell_blk b3 1
                  simp at a0 a1 c0 c1 d0 d1
                  have zz1 : w1.heap.size < W3.heap.size := lt_blk b1
                  have zz2 : w2.heap.size < W3.heap.size := lt_blk b2
                  have zz3 : w3.heap.size < W3.heap.size := lt_blk b3
                  have HW3 := Lib.hid hW3
                  have q1 := (Below.block (G2.out.trans2 (H2.out.trans2 G3.out)) _ (lt_blk B1.out)).trans B1.out
                  have A0 := cell_blk q1 0
                  have A1 := cell_blk q1 1
                  simp at A0 A1
                  have yy1 : w1.heap.size < w3.heap.size := lt_blk q1
                  clear own3 g3 rdr hadr OR hW3 h3' b1 b2 b3 hRR hRs a0 a1 q1 zz1
                  go_wp2_with fail
                  rw [← HW3.out]
                  refine (FA.out _ (H1.out.trans2 (G2.out.trans2 (H2.out.trans2 (G3.out.trans2 H3.out))))).mono ?_
                  rintro e w4 ⟨v4, rfl, f4, g4⟩
                  have F4 := Lib.hid (show IntsIn [0, ((N + i : Nat) : Int)] v4 w4 from f4)
                  have G4 := Lib.hid g4
                  replace c0 := (Below.cell g4 (p := ⟨w2.heap.size, 0, none⟩) zz2).trans c0
                  replace c1 := (Below.cell g4 (p := ⟨w2.heap.size, 1, none⟩) zz2).trans c1
                  replace d0 := (Below.cell g4 (p := ⟨w3.heap.size, 0, none⟩) zz3).trans d0
                  replace d1 := (Below.cell g4 (p := ⟨w3.heap.size, 1, none⟩) zz3).trans d1
                  have zy2 : w2.heap.size < w4.heap.size := Nat.lt_of_lt_of_le zz2 (Grow.size g4)
                  have zy3 : w3.heap.size < w4.heap.size := Nat.lt_of_lt_of_le zz3 (Grow.size g4)
                  clear f4 g4 FA A0 A1
                  go_wp2_with fail
                  refine (FQ.out _ (H2.out.trans2 (G3.out.trans2 (H3.out.trans2 G4.out)))).mono ?_
                  rintro e w5 ⟨v5, rfl, f5, g5⟩
                  have F5 := Lib.hid (show IntsIn [0, 0] v5 w5 from f5)
                  have F45 := Lib.hid (F4.out.grow g5)
                  have G5 := Lib.hid g5
                  replace d0 := (Below.cell g5 (p := ⟨w3.heap.size, 0, none⟩) zy3).trans d0
                  replace d1 := (Below.cell g5 (p := ⟨w3.heap.size, 1, none⟩) zy3).trans d1
                  have zx3 : w3.heap.size < w5.heap.size := Nat.lt_of_lt_of_le zy3 (Grow.size g5)
                  clear f5 g5 FQ c0 c1
                  have LT1 := Lib.hid (show IntsIn [0, ((N + i : Nat) : Int)] (.slice (some ⟨w5.heap.size, 0, none⟩) 2 2) (w5.alloc (.cells #[.int .i64 0, .int .i64 ((N : Int) + (i : Int))] 3)) from by
                    rw [show ((N + i : Nat) : Int) = (N : Int) + (i : Int) by omega]
                    have := World.ownsRow_lit (base := 0) (e := 3) (size := 1) w5 #[.int .i64 0, .int .i64 ((N : Int) + (i : Int))] 2 (Nat.zero_le _) (by unfold maxLen; omega) (by simp)
                    simpa [IntsIn] using this)
                  have V1 := Lib.hid (F45.out.grow ((Grow.refl w5).alloc (.cells #[.int .i64 0, .int .i64 ((N : Int) + (i : Int))] 3)))
                  have NM1 := Lib.hid (num_same [0, ((N + i : Nat) : Int)] (by simp))
                  have NM2 := Lib.hid (num_same [0, 0] (by simp))
                  go_wp2_with fail
                  refine (NM1.out _ _ _ V1.out LT1.out).mono ?_
                  rintro e w6 ⟨rfl, g6⟩
                  have gg6 : Grow w5 w6 := ((Grow.refl w5).alloc _).trans2 g6
                  have G6 := Lib.hid gg6
                  replace d0 := (Below.cell gg6 (p := ⟨w3.heap.size, 0, none⟩) zx3).trans d0
                  replace d1 := (Below.cell gg6 (p := ⟨w3.heap.size, 1, none⟩) zx3).trans d1
                  have zw3 : w3.heap.size < w6.heap.size := Nat.lt_of_lt_of_le zx3 (Grow.size gg6)
                  have LT2 := Lib.hid (show IntsIn [0, 0] (.slice (some ⟨w6.heap.size, 0, none⟩) 2 2) (w6.alloc (.cells #[.int .i64 0, .int .i64 0] 3)) from by
                    have := World.ownsRow_lit (base := 0) (e := 3) (size := 1) w6 #[.int .i64 0, .int .i64 0] 2 (Nat.zero_le _) (by unfold maxLen; omega) (by simp)
                    simpa [IntsIn] using this)
                  have V2 := Lib.hid ((F5.out.grow gg6).grow ((Grow.refl w6).alloc (.cells #[.int .i64 0, .int .i64 0] 3)))
                  clear g6 gg6
                  go_wp2_with fail
                  refine (NM2.out _ _ _ V2.out LT2.out).mono ?_
                  rintro e w7 ⟨rfl, g7⟩
                  have gg7 : Grow w6 w7 := ((Grow.refl w6).alloc _).trans2 g7
                  have G7 := Lib.hid gg7
                  replace d0 := (Below.cell gg7 (p := ⟨w3.heap.size, 0, none⟩) zw3).trans d0
                  replace d1 := (Below.cell gg7 (p := ⟨w3.heap.size, 1, none⟩) zw3).trans d1
                  have zv3 : w3.heap.size < w7.heap.size := Nat.lt_of_lt_of_le zw3 (Grow.size gg7)
                  clear g7 gg7
                  go_wp2_with fail
                  refine (FR.out _ (H3.out.trans2 (G4.out.trans2 (G5.out.trans2 (G6.out.trans2 G7.out))))).mono ?_
                  rintro e w8 ⟨rfl, g8⟩
                  have G8 := Lib.hid g8
                  rw [HRS.out]
                  clear g8
                  go_wp2_with fail
                  refine (KN.out _).mono ?_
                  rintro e w9 ⟨rfl, g9⟩
                  have G9 := Lib.hid g9
                  clear g9
                  go_wp2
                  go_ret
                  exact ⟨rfl, G1.out.trans2 (H1.out.trans2 (G2.out.trans2 (H2.out.trans2 (G3.out.trans2 (H3.out.trans2 (G4.out.trans2 (G5.out.trans2 (G6.out.trans2 (G7.out.trans2 (G8.out.trans2 G9.out))))))))))⟩
              · have k1 : ¬ (i : Int) < (more.size : Int) := by omega
                have RU := Lib.hid (HRUN.out (fun ⟨h, _⟩ => hlt h))
                clear HRUN
                have hxz : ¬ 9223372036854775807 < x.size + more.size := by omega
                have OA := Lib.hid (of_known kA kA_plain (by decide) 0 LA comp_A (by decide))
                have OQ := Lib.hid (of_known kQ kQ_plain (by decide) 0 LQ comp_Q (by decide))
                have OR := Lib.hid (of_known kR kR_plain (by decide) 1 LR comp_R (by decide))
                go_wp2_with fail
                refine (OA.out _).mono ?_
                rintro e w1 ⟨lv, rfl, own1, g1⟩
                obtain ⟨aa, ca, ga, rfl, rda, hada⟩ := of_rd own1
                have FA := Lib.hid (fun w' (h : Grow w1 w') => find_any LA (x ++ more) 0 0 _ (star_find _ _ RU.out) w' aa ca ga 0 (rda.grow h) hada LA_ok (by rw [ByteArray.size_append]; omega))
                have G1 := Lib.hid g1
                obtain ⟨W1, hW1⟩ : ∃ W1, W1 = w1.alloc (.cells #[.int .i64 0, .slice aa LA.length ca] 24) := ⟨_, rfl⟩
                have b1 := heap_alloc_new w1 (.cells #[.int .i64 0, .slice aa LA.length ca] 24)
                have h1 : Grow w1 W1 := by rw [hW1]; exact (Grow.refl w1).alloc _
                rw [← hW1] at b1
                have H1 := Lib.hid h1
                have B1 := Lib.hid b1
                have HW1 := Lib.hid hW1
                clear own1 g1 rda hada OA hW1 h1 b1
                go_wp2_with fail
                rw [← HW1.out]
                refine (OQ.out _).mono ?_
                rintro e w2 ⟨lv, rfl, own2, g2⟩
                obtain ⟨aq, cq, gq, rfl, rdq, hadq⟩ := of_rd own2
                have FQ := Lib.hid (fun w' (h : Grow w2 w') => find_any LQ (x ++ more) 0 0 _ (lazy_find _) w' aq cq gq 0 (rdq.grow h) hadq LQ_ok (by rw [ByteArray.size_append]; omega))
                have G2 := Lib.hid g2
                obtain ⟨W2, hW2⟩ : ∃ W2, W2 = w2.alloc (.cells #[.int .i64 0, .slice aq LQ.length cq] 24) := ⟨_, rfl⟩
                have b2 := heap_alloc_new w2 (.cells #[.int .i64 0, .slice aq LQ.length cq] 24)
                have h2 : Grow w2 W2 := by rw [hW2]; exact (Grow.refl w2).alloc _
                rw [← hW2] at b2
                have H2 := Lib.hid h2
                have B2 := Lib.hid b2
                have HW2 := Lib.hid hW2
                clear own2 g2 rdq hadq OQ hW2 h2 b2
                go_wp2_with fail
                rw [← HW2.out]
                refine (OR.out _).mono ?_
                rintro e w3 ⟨lv, rfl, own3, g3⟩
                obtain ⟨ar, cr, gr, rfl, rdr, hadr⟩ := of_rd own3
                obtain ⟨RR, hRR, hRs⟩ := star_is x (fun k hk => HXA.out k (by have := HX1.out; omega))
                have FR := Lib.hid (fun w' (h : Grow w3 w') => is17_any LR x 1 RR hRR w' ar cr gr 0 (rdr.grow h) hadr LR_ok (by omega))
                have HRS := Lib.hid hRs
                have G3 := Lib.hid g3
                obtain ⟨W3, hW3⟩ : ∃ W3, W3 = w3.alloc (.cells #[.int .i64 1, .slice ar LR.length cr] 24) := ⟨_, rfl⟩
                have b3 := heap_alloc_new w3 (.cells #[.int .i64 1, .slice ar LR.length cr] 24)
                have h3' : Grow w3 W3 := by rw [hW3]; exact (Grow.refl w3).alloc _
                rw [← hW3] at b3
                have H3 := Lib.hid h3'
                have b1 := (Below.block (G2.out.trans2 (H2.out.trans2 (G3.out.trans2 h3'))) _ (lt_blk B1.out)).trans B1.out
                have b2 := (Below.block (G3.out.trans2 h3') _ (lt_blk B2.out)).trans B2.out
                have a0 := cell_blk b1 0
                have a1 := cell_blk b1 1
                have c0 := cell_blk b2 0
                have c1 := cell_blk b2 1
                have d0 := cell_blk b3 0
                have d1 := cell_blk b3 1
                simp at a0 a1 c0 c1 d0 d1
                have zz1 : w1.heap.size < W3.heap.size := lt_blk b1
                have zz2 : w2.heap.size < W3.heap.size := lt_blk b2
                have zz3 : w3.heap.size < W3.heap.size := lt_blk b3
                have HW3 := Lib.hid hW3
                have q1 := (Below.block (G2.out.trans2 (H2.out.trans2 G3.out)) _ (lt_blk B1.out)).trans B1.out
                have A0 := cell_blk q1 0
                have A1 := cell_blk q1 1
                simp at A0 A1
                have yy1 : w1.heap.size < w3.heap.size := lt_blk q1
                clear own3 g3 rdr hadr OR hW3 h3' b1 b2 b3 hRR hRs a0 a1 q1 zz1
                go_wp2_with fail
                rw [← HW3.out]
                refine (FA.out _ (H1.out.trans2 (G2.out.trans2 (H2.out.trans2 (G3.out.trans2 H3.out))))).mono ?_
                rintro e w4 ⟨v4, rfl, f4, g4⟩
                have F4 := Lib.hid (show IntsIn [0, ((N + i : Nat) : Int)] v4 w4 from f4)
                have G4 := Lib.hid g4
                replace c0 := (Below.cell g4 (p := ⟨w2.heap.size, 0, none⟩) zz2).trans c0
                replace c1 := (Below.cell g4 (p := ⟨w2.heap.size, 1, none⟩) zz2).trans c1
                replace d0 := (Below.cell g4 (p := ⟨w3.heap.size, 0, none⟩) zz3).trans d0
                replace d1 := (Below.cell g4 (p := ⟨w3.heap.size, 1, none⟩) zz3).trans d1
                have zy2 : w2.heap.size < w4.heap.size := Nat.lt_of_lt_of_le zz2 (Grow.size g4)
                have zy3 : w3.heap.size < w4.heap.size := Nat.lt_of_lt_of_le zz3 (Grow.size g4)
                clear f4 g4 FA A0 A1
                go_wp2_with fail
                refine (FQ.out _ (H2.out.trans2 (G3.out.trans2 (H3.out.trans2 G4.out)))).mono ?_
                rintro e w5 ⟨v5, rfl, f5, g5⟩
                have F5 := Lib.hid (show IntsIn [0, 0] v5 w5 from f5)
                have F45 := Lib.hid (F4.out.grow g5)
                have G5 := Lib.hid g5
                replace d0 := (Below.cell g5 (p := ⟨w3.heap.size, 0, none⟩) zy3).trans d0
                replace d1 := (Below.cell g5 (p := ⟨w3.heap.size, 1, none⟩) zy3).trans d1
                have zx3 : w3.heap.size < w5.heap.size := Nat.lt_of_lt_of_le zy3 (Grow.size g5)
                clear f5 g5 FQ c0 c1
                have LT1 := Lib.hid (show IntsIn [0, ((N + i : Nat) : Int)] (.slice (some ⟨w5.heap.size, 0, none⟩) 2 2) (w5.alloc (.cells #[.int .i64 0, .int .i64 ((N : Int) + (i : Int))] 3)) from by
                  rw [show ((N + i : Nat) : Int) = (N : Int) + (i : Int) by omega]
                  have := World.ownsRow_lit (base := 0) (e := 3) (size := 1) w5 #[.int .i64 0, .int .i64 ((N : Int) + (i : Int))] 2 (Nat.zero_le _) (by unfold maxLen; omega) (by simp)
                  simpa [IntsIn] using this)
                have V1 := Lib.hid (F45.out.grow ((Grow.refl w5).alloc (.cells #[.int .i64 0, .int .i64 ((N : Int) + (i : Int))] 3)))
                have NM1 := Lib.hid (num_same [0, ((N + i : Nat) : Int)] (by simp))
                have NM2 := Lib.hid (num_same [0, 0] (by simp))
                go_wp2_with fail
                refine (NM1.out _ _ _ V1.out LT1.out).mono ?_
                rintro e w6 ⟨rfl, g6⟩
                have gg6 : Grow w5 w6 := ((Grow.refl w5).alloc _).trans2 g6
                have G6 := Lib.hid gg6
                replace d0 := (Below.cell gg6 (p := ⟨w3.heap.size, 0, none⟩) zx3).trans d0
                replace d1 := (Below.cell gg6 (p := ⟨w3.heap.size, 1, none⟩) zx3).trans d1
                have zw3 : w3.heap.size < w6.heap.size := Nat.lt_of_lt_of_le zx3 (Grow.size gg6)
                have LT2 := Lib.hid (show IntsIn [0, 0] (.slice (some ⟨w6.heap.size, 0, none⟩) 2 2) (w6.alloc (.cells #[.int .i64 0, .int .i64 0] 3)) from by
                  have := World.ownsRow_lit (base := 0) (e := 3) (size := 1) w6 #[.int .i64 0, .int .i64 0] 2 (Nat.zero_le _) (by unfold maxLen; omega) (by simp)
                  simpa [IntsIn] using this)
                have V2 := Lib.hid ((F5.out.grow gg6).grow ((Grow.refl w6).alloc (.cells #[.int .i64 0, .int .i64 0] 3)))
                clear g6 gg6
                go_wp2_with fail
                refine (NM2.out _ _ _ V2.out LT2.out).mono ?_
                rintro e w7 ⟨rfl, g7⟩
                have gg7 : Grow w6 w7 := ((Grow.refl w6).alloc _).trans2 g7
                have G7 := Lib.hid gg7
                replace d0 := (Below.cell gg7 (p := ⟨w3.heap.size, 0, none⟩) zw3).trans d0
                replace d1 := (Below.cell gg7 (p := ⟨w3.heap.size, 1, none⟩) zw3).trans d1
                have zv3 : w3.heap.size < w7.heap.size := Nat.lt_of_lt_of_le zw3 (Grow.size gg7)
                clear g7 gg7
                go_wp2_with fail
                refine (FR.out _ (H3.out.trans2 (G4.out.trans2 (G5.out.trans2 (G6.out.trans2 G7.out))))).mono ?_
                rintro e w8 ⟨rfl, g8⟩
                have G8 := Lib.hid g8
                rw [HRS.out]
                clear g8
                go_wp2_with fail
                refine (KN.out _).mono ?_
                rintro e w9 ⟨rfl, g9⟩
                have G9 := Lib.hid g9
                clear g9
                go_wp2
                go_ret
                exact ⟨rfl, G1.out.trans2 (H1.out.trans2 (G2.out.trans2 (H2.out.trans2 (G3.out.trans2 (H3.out.trans2 (G4.out.trans2 (G5.out.trans2 (G6.out.trans2 (G7.out.trans2 (G8.out.trans2 G9.out))))))))))⟩
end Go.Proofs.Ytldcbkememonaaa
