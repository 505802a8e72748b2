/-
  The walk of SubstAll.
-/
import Derived.Test.YtldcbkememonaaaN6
import Derived.Test.YtldcbkememonaaaK7
import Derived.Test.YtldcbkememonaaaK9

namespace Go.Proofs.Ytldcbkememonaaa
open Go.RowKit
set_option linter.unusedVariables false
set_option linter.unusedSimpArgs false

/-- 'of' at any expression -/
theorem of13_all (s : ByteArray) (hs : s.size ≤ 10000) (w : World) : Calls Try.prog 21 #[.string s] w (OfP13 s w) :=
  of21_any s w hs (set_any s hs) (by have := (comp_lok s hs).2; omega)
set_option maxRecDepth 100000 in
set_option maxHeartbeats 4000000 in
theorem sall_any (s t tx : ByteArray) (w : World) : Calls Try.prog 8 #[.string s, .string t, .string tx] w (TrueP true w) := by
  by_cases h1 : 60 < s.size
  · have h1' : (60 : Int) < (s.size : Int) := by omega
    go_enter Try.func8, Try.ntmps8
    go_wp2
    go_ret
    exact ⟨rfl, Grow.refl w⟩
  · have h1' : ¬ (60 : Int) < (s.size : Int) := by omega
    by_cases h2 : 60 < t.size
    · have h2' : (60 : Int) < (t.size : Int) := by omega
      go_enter Try.func8, Try.ntmps8
      go_wp2
      go_ret
      exact ⟨rfl, Grow.refl w⟩
    · have h2' : ¬ (60 : Int) < (t.size : Int) := by omega
      by_cases h3 : 60 < tx.size
      · have h3' : (60 : Int) < (tx.size : Int) := by omega
        go_enter Try.func8, Try.ntmps8
        go_wp2
        go_ret
        exact ⟨rfl, Grow.refl w⟩
      · have h3' : ¬ (60 : Int) < (tx.size : Int) := by omega
        have LO := (comp_lok s (by omega)).1
        have of0 := of13_all s (by omega) w
        unfold OfP13 at of0
        obtain ⟨gq, hgq⟩ : ∃ gq : Int, gq = (compF s).1 := ⟨_, rfl⟩
        obtain ⟨L, hL⟩ : ∃ L, L = (compF s).2.1 := ⟨_, rfl⟩
        obtain ⟨ok, hok⟩ : ∃ ok, ok = ((compF s).2.2 == 0) := ⟨_, rfl⟩
        rw [← hgq, ← hL, ← hok] at of0
        rw [← hL] at LO
        clear hgq hL hok
        have OF := Lib.hid of0
        have HLO := Lib.hid LO
        have KN := Lib.hid known13_any
        clear LO of0
        go_enter Try.func8, Try.ntmps8
        go_wp2_with fail
        refine OF.out.mono ?_
        rintro e w1 ⟨lv, lq, rfl, own1, own2, g1⟩
        obtain ⟨a, c, g, rfl, rd, had⟩ := of_rd own1
        obtain ⟨aq, cq, gg, rfl, rdq, hadq⟩ := like_rd own2
        obtain ⟨n, hn⟩ : ∃ n, n = L.length := ⟨_, rfl⟩
        obtain ⟨R, hR⟩ : ∃ R, R = allF gq L t tx := ⟨_, rfl⟩
        have A23 := fun w' (h : Grow w1 w') => all23_any L gq t tx w' a c g 0 (rd.grow h) had HLO.out (by omega) (by omega)
        have A24 := fun w' (h : Grow w1 w') => all24_any L gq t tx w' aq cq gg 0 (rdq.grow h) hadq HLO.out (by omega) (by omega)
        rw [← hn, ← hR] at A23 A24
        have A23 := Lib.hid A23
        have A24 := Lib.hid A24
        have G1 := Lib.hid g1
        rw [← hn]
        clear own1 own2 g1 rd rdq had hadq hn hR OF
        obtain ⟨W1, hW1⟩ : ∃ W1, W1 = (w1.alloc (.cells #[.int .i64 gq, .slice a n c] 24)).alloc (.cells #[.int .i64 gq, .slice aq n cq] 33) := ⟨_, rfl⟩
        have g1W : Grow w1 W1 := by rw [hW1]; exact ((Grow.refl w1).alloc _).alloc _
        have hbq : W1.heap[w1.heap.size + 1]? = some (.cells #[.int .i64 gq, .slice aq n cq] 33 (0, 0)) := by
          have := heap_alloc_new (w1.alloc (.cells #[.int .i64 gq, .slice a n c] 24)) (.cells #[.int .i64 gq, .slice aq n cq] 33)
          rw [hW1]
          simpa using this
        have d0 := cell_blk hbq 0
        have d1 := cell_blk hbq 1
        simp at d0 d1
        have zb := lt_blk hbq
        have G1W := Lib.hid g1W
        have HBQ := Lib.hid hbq
        have HW1 := Lib.hid hW1
        clear hbq g1W hW1
        cases ok with
        | false =>
          go_wp2_with fail
          rw [← HW1.out]
          refine (KN.out _).mono ?_
          rintro e w2 ⟨rfl, g2⟩
          have G2 := Lib.hid ((G1.out.trans2 G1W.out).trans2 g2)
          clear g2
          go_wp2
          go_ret
          exact ⟨rfl, G2.out⟩
        | true =>
          go_wp2_with fail
          rw [← HW1.out]
          refine (A23.out _ G1W.out).mono ?_
          rintro e w2 ⟨rfl, g2⟩
          have p0 := (Below.cell g2 (p := ⟨w1.heap.size + 1, 0, none⟩) zb).trans d0
          have p1 := (Below.cell g2 (p := ⟨w1.heap.size + 1, 1, none⟩) zb).trans d1
          have zb2 : w1.heap.size + 1 < w2.heap.size := Nat.lt_of_lt_of_le zb (Grow.size g2)
          have G2 := Lib.hid (G1W.out.trans2 g2)
          clear g2 d0 d1
          go_wp2_with fail
          refine (A24.out _ G2.out).mono ?_
          rintro e w3 ⟨rfl, g3⟩
          have G3 := Lib.hid (G2.out.trans2 g3)
          clear g3 p0 p1
          have ES := str_eq R.1
          go_wp2_with fail
          refine (KN.out _).mono ?_
          rintro e w4 ⟨rfl, g4⟩
          have G4 := Lib.hid ((G1.out.trans2 G3.out).trans2 g4)
          clear g4
          go_wp2
          go_ret
          exact ⟨rfl, G4.out⟩
end Go.Proofs.Ytldcbkememonaaa
