/-
  The walk of PikeFinds.
-/
import Derived.Test.YtldcbkememonaaaN6
import Derived.Test.YtldcbkememonaaaG8

namespace Go.Proofs.Ytldcbkememonaaa
open Go.RowKit
set_option linter.unusedVariables false
set_option linter.unusedSimpArgs false

set_option maxRecDepth 100000 in
set_option maxHeartbeats 4000000 in
theorem pfinds_any (s tx : ByteArray) (from_ : Int) (w : World) : Calls Try.prog 5 #[.string s, .string tx, .int .i64 from_] w (TrueP true w) := by
  by_cases h1 : 60 < s.size
  · have h1' : (60 : Int) < (s.size : Int) := by omega
    go_enter Try.func5, Try.ntmps5
    go_wp2
    go_ret
    exact ⟨rfl, Grow.refl w⟩
  · have h1' : ¬ (60 : Int) < (s.size : Int) := by omega
    by_cases h2 : 60 < tx.size
    · have h2' : (60 : Int) < (tx.size : Int) := by omega
      go_enter Try.func5, Try.ntmps5
      go_wp2
      go_ret
      exact ⟨rfl, Grow.refl w⟩
    · have h2' : ¬ (60 : Int) < (tx.size : Int) := by omega
      have LO := (comp_lok s (by omega)).1
      have hll := (comp_lok s (by omega)).2
      have OF := of_any s (by omega) w
      unfold OfP at OF
      obtain ⟨gq, hgq⟩ : ∃ gq : Int, gq = (compF s).1 := ⟨_, rfl⟩
      obtain ⟨L, hL⟩ : ∃ L, L = (compF s).2.1 := ⟨_, rfl⟩
      obtain ⟨ok, hok⟩ : ∃ ok, ok = ((compF s).2.2 == 0) := ⟨_, rfl⟩
      rw [← hgq, ← hL, ← hok] at OF
      rw [← hL] at LO hll
      clear hgq hL hok
      obtain ⟨R, hR, hRl, _⟩ := findF_total gq L tx from_
      obtain ⟨RI, hRI, _, _⟩ := findF_total gq L tx 0
      have OF := Lib.hid OF
      have HLO := Lib.hid LO
      have HR := Lib.hid hR
      have HRI := Lib.hid hRI
      have KN := Lib.hid known_any
      have SM := Lib.hid (same_any R hRl)
      obtain ⟨b, hb⟩ : ∃ b, b = R.isSome := ⟨_, rfl⟩
      obtain ⟨bI, hbI⟩ : ∃ b, b = RI.isSome := ⟨_, rfl⟩
      have HB := Lib.hid hb
      have HBI := Lib.hid hbI
      have HLL := Lib.hid hll
      clear LO hR hRI hRl hb hbI hll
      go_enter Try.func5, Try.ntmps5
      go_wp2_with fail
      refine OF.out.mono ?_
      rintro e w1 ⟨lv, rfl, own1, g1⟩
      obtain ⟨a, c, g, rfl, rd, had⟩ := of_rd own1
      obtain ⟨n, hn⟩ : ∃ n, n = L.length := ⟨_, rfl⟩
      have HN := Lib.hid hn
      have G1 := Lib.hid g1
      have RD := Lib.hid rd
      have HAD := Lib.hid had
      rw [← hn]
      clear own1 g1 rd had hn OF
      obtain ⟨W1, hW1⟩ : ∃ W1, W1 = w1.alloc (.cells #[.int .i64 gq, .slice a n c] 24) := ⟨_, rfl⟩
      have hbk := heap_alloc_new w1 (.cells #[.int .i64 gq, .slice a n c] 24)
      rw [← hW1] at hbk
      have g1W := show Grow w1 W1 from by rw [hW1]; exact (Grow.refl w1).alloc _
      have g1W' := Lib.hid g1W
      have G1W := Lib.hid g1W
      have d0 := cell_blk hbk 0
      have d1 := cell_blk hbk 1
      simp at d0 d1
      have zb := lt_blk hbk
      have HBK := Lib.hid hbk
      clear hbk g1W
      cases ok with
      | false =>
        go_wp2_with fail
        rw [← hW1]
        refine (KN.out _).mono ?_
        rintro e w2 ⟨rfl, g2⟩
        have G2 := Lib.hid (Below.trans G1.out (Below.mono (Below.trans G1W.out (Below.mono g2 G1W.out.size)) G1.out.size))
        clear g2
        go_wp2
        go_ret
        exact ⟨rfl, G2.out⟩
      | true =>
        have FN1 := find_any L tx gq from_ R HR.out W1 a c g 0 (RD.out.grow G1W.out) HAD.out HLO.out (by omega)
        rw [← HN.out] at FN1
        have FN1 := Lib.hid FN1
        have HW1 := Lib.hid hW1
        clear hW1
        go_wp2_with fail
        rw [← HW1.out]
        refine FN1.out.mono ?_
        rintro e w2 ⟨v2, rfl, f2, g2⟩
        have F2 := Lib.hid f2
        have G2 := Lib.hid (g1W'.out.trans2 g2)
        rw [← HB.out]
        have p0 := (Below.cell g2 (p := ⟨w1.heap.size, 0, none⟩) zb).trans d0
        have p1 := (Below.cell g2 (p := ⟨w1.heap.size, 1, none⟩) zb).trans d1
        have zb2 : w1.heap.size < w2.heap.size := Nat.lt_of_lt_of_le zb (Grow.size g2)
        have LK1 := like_any L gq w2 a c g 0 (RD.out.grow G2.out) HAD.out (by have := HLL.out; omega)
        rw [← HN.out] at LK1
        have LK1 := Lib.hid LK1
        clear f2 g2 FN1 d0 d1
        go_wp2_with fail
        refine LK1.out.mono ?_
        rintro e w3 ⟨lv3, rfl, own3, g3⟩
        obtain ⟨a3, c3, g3', rfl, rd3, had3⟩ := like_rd own3
        have FN3 := find12_any L tx gq from_ R HR.out w3 a3 c3 g3' 0 rd3 had3 HLO.out (by omega)
        rw [← HN.out] at FN3 ⊢
        have FN3 := Lib.hid FN3
        have G3 := Lib.hid g3
        have p0' := (Below.cell g3 (p := ⟨w1.heap.size, 0, none⟩) zb2).trans p0
        have p1' := (Below.cell g3 (p := ⟨w1.heap.size, 1, none⟩) zb2).trans p1
        clear own3 rd3 had3 g3 p0 p1 LK1
        go_wp2_with fail
        refine FN3.out.mono ?_
        rintro e w4 ⟨v4, rfl, f4, g4⟩
        rw [← HB.out]
        have zb3 : w1.heap.size < w3.heap.size := Nat.lt_of_lt_of_le zb2 (Grow.size G3.out)
        have q0 := (Below.cell g4 (p := ⟨w1.heap.size, 0, none⟩) zb3).trans p0'
        have q1 := (Below.cell g4 (p := ⟨w1.heap.size, 1, none⟩) zb3).trans p1'
        have zb4 : w1.heap.size < w4.heap.size := Nat.lt_of_lt_of_le zb3 (Grow.size g4)
        have G14 := Lib.hid (show Grow w1 w4 from (G2.out.trans2 G3.out).trans2 g4)
        have NM := Lib.hid (show ∀ W, Grow w4 W → Calls Try.prog 14 #[v2, v4] W (fun e w' => e = .returned (.bool true) ∧ Grow w4 w') from fun W hW => by
          refine (SM.out v2 v4 W (((F2.out.stay (IntsStay.grow G3.out)).stay (IntsStay.grow g4)).stay (IntsStay.grow hW)) (f4.stay (IntsStay.grow hW))).mono ?_
          rintro e w' ⟨rfl, hg⟩
          exact ⟨rfl, hW.trans2 hg⟩)
        have I17 := Lib.hid (show ∀ W, Grow w4 W → Calls Try.prog 17 #[.agg #[.int .i64 gq, .slice a n c], .string tx] W (fun e w' => e = .returned (.bool bI) ∧ Grow w4 w') from fun W hW => by
          have := is17_any L tx gq RI HRI.out W a c g 0 (RD.out.grow (G14.out.trans2 hW)) HAD.out HLO.out (by omega)
          rw [← HN.out] at this
          refine this.mono ?_
          rintro e w' ⟨rfl, hg⟩
          exact ⟨by rw [HBI.out], hW.trans2 hg⟩)
        have LK := Lib.hid (show ∀ W, Grow w4 W → Calls Try.prog 13 #[.agg #[.int .i64 gq, .slice a n c]] W (fun e w' => ∃ lv, e = .returned (.agg #[.int .i64 gq, lv]) ∧ Grow w4 w' ∧ ∀ W2, Grow w' W2 → Calls Try.prog 18 #[.agg #[.int .i64 gq, lv], .string tx] W2 (fun e w'' => e = .returned (.bool bI) ∧ Grow w4 w'')) from fun W hW => by
          have := like_any L gq W a c g 0 (RD.out.grow (G14.out.trans2 hW)) HAD.out (by have := HLL.out; omega)
          rw [← HN.out] at this
          refine this.mono ?_
          rintro e w' ⟨lv, rfl, own, hg⟩
          obtain ⟨a5, c5, g5, rfl, rd5, had5⟩ := like_rd own
          refine ⟨_, rfl, hW.trans2 hg, fun W2 hW2 => ?_⟩
          refine (is18_any L tx gq RI HRI.out W2 a5 c5 g5 0 (rd5.grow hW2) had5 HLO.out (by omega)).mono ?_
          rintro e w'' ⟨rfl, hg2⟩
          exact ⟨by rw [HBI.out], (hW.trans2 hg).trans2 (hW2.trans2 hg2)⟩)
        have KK := Lib.hid (show ∀ W, Grow w4 W → Calls Try.prog 15 #[] W (fun e w' => e = .returned (.bool true) ∧ Grow w4 w') from fun W hW => by
          refine (KN.out W).mono ?_
          rintro e w' ⟨rfl, hg⟩
          exact ⟨rfl, hW.trans2 hg⟩)
        have SK := Lib.hid (show ∀ W, Grow w4 W → Grow w4 W ∧ W.cell? ⟨w1.heap.size, 0, none⟩ = some (.int .i64 gq) ∧ W.cell? ⟨w1.heap.size, 1, none⟩ = some (.slice a n c) from fun W hW => ⟨hW, (Below.cell hW (p := ⟨w1.heap.size, 0, none⟩) zb4).trans q0, (Below.cell hW (p := ⟨w1.heap.size, 1, none⟩) zb4).trans q1⟩)
        have GD := (Grow.refl w4).drew
        have GF := Lib.hid (G1.out.trans2 G14.out)
        clear f4 g4 FN3 q0 q1 p0' p1'
        go_wp2_with fail
        trace_state
        go_region_held3 (fun W => Grow w4 W ∧ W.cell? ⟨w1.heap.size, 0, none⟩ = some (.int .i64 gq) ∧ W.cell? ⟨w1.heap.size, 1, none⟩ = some (.slice a n c)) (exact SK.out _ (by assumption))
          (first
            | (go_at_call 14; refine (NM.out _ (by assumption)).mono ?_; rintro e w5 ⟨rfl, g5⟩)
            | (go_at_call 17; refine (I17.out _ (by assumption)).mono ?_; rintro e w6 ⟨rfl, g6⟩)
            | (go_at_call 13; refine (LK.out _ (by assumption)).mono ?_; rintro e w7 ⟨lv7, rfl, g7, I18⟩)
            | (go_at_call 18; refine (I18 _ (Grow.refl _)).mono ?_; rintro e w8 ⟨rfl, g8⟩)
            | (go_at_call 15; refine (KK.out _ (by assumption)).mono ?_; rintro e w9 ⟨rfl, g9⟩))
        all_goals
          go_wp2
          go_ret
          exact ⟨rfl, GF.out.trans2 g9⟩
end Go.Proofs.Ytldcbkememonaaa
