/-
  The walk of PikePrograms.
-/
import Derived.Test.YtldcbkememonaaaH6
import Derived.Test.YtldcbkememonaaaG7

namespace Go.Proofs.Ytldcbkememonaaa
open Go.RowKit
set_option linter.unusedVariables false
set_option linter.unusedSimpArgs false

/-- a program in memory, as graticuleref11's -/
theorem like_rd {B : Nat} {L : List Ins} {lv : Value} {w : World} (h : w.ownsRow B 76 4 lv L.length (cellsI L)) : ∃ a c g, lv = .slice a L.length c ∧ RdI L g 0 w ∧ (0 < L.length → a = some ⟨g, 0, none⟩) := by
  obtain ⟨a, c, rfl, _⟩ := own_shape h
  by_cases h0 : 0 < L.length
  · obtain ⟨g, c', e, _, _⟩ := h.form h0
    injection e with e1 _ e2
    subst e1 e2
    exact ⟨_, _, g, rfl, rdI_own h rfl, fun _ => rfl⟩
  · have : L = [] := List.eq_nil_of_length_eq_zero (by omega)
    subst this
    exact ⟨_, _, 0, rfl, fun k i hk => by simp at hk, fun h => absurd h (by simp)⟩
/-- numbers of what both found -/
theorem same_any (R : Option (List Int)) (hl : (R.getD []).length ≤ 3000) (v u : Value) (w : World) (h1 : FV w v R) (h2 : FV w u R) : Calls Try.prog 14 #[v, u] w (NumP true w) := by
  have := numbers_any (R.getD []) (R.getD []) v u w h1.ints h2.ints (by omega) (by omega)
  rw [decide_eq_true rfl] at this
  exact this
set_option maxRecDepth 100000 in
set_option maxHeartbeats 4000000 in
theorem pprogs_any (L : List Ins) (gr : Int) (tx : ByteArray) (from_ : Int) (a : Option Addr) (c g o : Nat) (w : World) (hrd : RdI L g o w) (had : 0 < L.length → a = some ⟨g, o, none⟩) (hwf : ∀ i ∈ L, wf64 i.x ∧ wf64 i.y) :
    Calls Try.prog 3 #[.agg #[.int .i64 gr, .slice a L.length c], .string tx, .int .i64 from_] w (TrueP true w) := by
  obtain ⟨n, hn⟩ : ∃ n, n = L.length := ⟨_, rfl⟩
  obtain ⟨R, hR, hRl, _⟩ := findF_total gr L tx from_
  have HN := Lib.hid hn
  have HRD := Lib.hid hrd
  have HAD := Lib.hid had
  have HWF := Lib.hid hwf
  have HR := Lib.hid hR
  have HRL := Lib.hid hRl
  rw [← hn]
  clear hn hrd had hwf hR hRl
  by_cases h1 : 30 < n
  · have h1' : (30 : Int) < (n : Int) := by omega
    go_enter Try.func3, Try.ntmps3
    go_wp2
    go_ret
    exact ⟨rfl, (Grow.refl w).alloc _⟩
  · by_cases h2 : 60 < tx.size
    · have h1' : ¬ (30 : Int) < (n : Int) := by omega
      go_enter Try.func3, Try.ntmps3
      go_wp2
      go_ret
      exact ⟨rfl, (Grow.refl w).alloc _⟩
    · by_cases h3 : 40 < gr
      · have h1' : ¬ (30 : Int) < (n : Int) := by omega
        go_enter Try.func3, Try.ntmps3
        go_wp2
        go_ret
        exact ⟨rfl, (Grow.refl w).alloc _⟩
      · obtain ⟨W1, hW1⟩ : ∃ W1, W1 = w.alloc (.cells #[.int .i64 gr, .slice a n c] 24) := ⟨_, rfl⟩
        have hb := heap_alloc_new w (.cells #[.int .i64 gr, .slice a n c] 24)
        rw [← hW1] at hb
        have G1 := Lib.hid (show Grow w W1 from by rw [hW1]; exact (Grow.refl w).alloc _)
        have d0 := cell_blk hb 0
        have d1 := cell_blk hb 1
        simp at d0 d1
        have zb := lt_blk hb
        have HB := Lib.hid hb
        have HW1 := Lib.hid hW1
        clear hb hW1
        have h1' : ¬ (30 : Int) < (n : Int) := by omega
        go_enter Try.func3, Try.ntmps3
        go_wp2
        rw [← HW1.out]
        go_loop [7] (fun t => ∃ j : Nat, j ≤ n ∧ t = .int .i64 j ∧ Hid (∀ k i, k < j → L[k]? = some i → i.ps.size ≤ 60)) (fun t => n - (intOf t).toNat)
        case atStart => exact ⟨0, by omega, rfl, Lib.hid (fun k i hk => absurd hk (by omega))⟩
        case round =>
          obtain ⟨j, hj, rfl, HS⟩ := hrel
          have k0 : (0 : Int) ≤ (j : Int) := by omega
          by_cases hlt : j < n
          · have k1 : (j : Int) < (n : Int) := by omega
            obtain ⟨⟨op, x, y, ps⟩, hI⟩ : ∃ I, L[j]? = some I := ⟨_, List.getElem?_eq_getElem (by rw [← HN.out]; exact hlt)⟩
            have ha := HAD.out (by rw [← HN.out]; omega)
            subst ha
            obtain ⟨q0, _, _, _, q4⟩ := (HRD.out.grow G1.out) j _ hI
            simp only at q4
            have HI := Lib.hid hI
            clear hI
            by_cases h5 : 60 < ps.size
            · go_wp2
              go_ret
              exact ⟨rfl, G1.out⟩
            · go_wp2
              go_round
              case rel => exact ⟨j + 1, by omega, by go_num, Lib.hid (fun k i hk hi => by
                by_cases e : k = j
                · subst e
                  rw [HI.out] at hi
                  injection hi with hi
                  subst hi
                  simp only
                  omega
                · exact HS.out k i (by omega) hi)⟩
              case measure => simp [intOf]; omega
          · have k1 : ¬ (j : Int) < (n : Int) := by omega
            have LO : LOk L := by
              refine ⟨HWF.out, fun i hi => ?_, by rw [← HN.out]; omega⟩
              obtain ⟨k, hk⟩ := List.mem_iff_getElem?.1 hi
              have hk2 := (List.getElem?_eq_some_iff.1 hk).1
              have := HS.out k i (by rw [← HN.out] at hk2; omega) hk
              omega
            have HLO := Lib.hid LO
            have FN1 := find_any L tx gr from_ R HR.out W1 a c g o (HRD.out.grow G1.out) HAD.out LO (by omega)
            have LK := fun w' (h : Grow W1 w') => like_any L gr w' a c g o ((HRD.out.grow G1.out).grow h) HAD.out (by rw [← HN.out]; omega)
            rw [← HN.out] at FN1 LK
            have FN1 := Lib.hid FN1
            have LK1 := Lib.hid LK
            have FN2 := Lib.hid (fun w' a' c' g' (hr : RdI L g' 0 w') ha => find12_any L tx gr from_ R HR.out w' a' c' g' 0 hr ha LO (by omega))
            have SM := Lib.hid (same_any R HRL.out)
            have KN := Lib.hid known_any
            obtain ⟨b, hb⟩ : ∃ b, b = R.isSome := ⟨_, rfl⟩
            have HBB := Lib.hid hb
            clear LO LK hb
            go_wp2_with fail
            refine FN1.out.mono ?_
            rintro e w2 ⟨v2, rfl, f2, g2⟩
            have F2 := Lib.hid f2
            have G2 := Lib.hid g2
            rw [← HBB.out]
            have p0 := (Below.cell g2 (p := ⟨w.heap.size, 0, none⟩) zb).trans d0
            have p1 := (Below.cell g2 (p := ⟨w.heap.size, 1, none⟩) zb).trans d1
            have zb2 : w.heap.size < w2.heap.size := Nat.lt_of_lt_of_le zb (Grow.size g2)
            clear f2 g2 FN1 d0 d1
            go_wp2_with fail
            refine (LK1.out _ G2.out).mono ?_
            rintro e w3 ⟨lv, rfl, own3, g3⟩
            obtain ⟨a3, c3, g3', rfl, rd3, had3⟩ := like_rd own3
            have FN3 := FN2.out w3 a3 c3 g3' rd3 had3
            rw [← HN.out] at FN3 ⊢
            have FN3 := Lib.hid FN3
            have G3 := Lib.hid g3
            clear own3 rd3 had3 g3 FN2 p0 p1
            go_wp2_with fail
            refine FN3.out.mono ?_
            rintro e w4 ⟨v4, rfl, f4, g4⟩
            have F4 := Lib.hid f4
            have F24 := Lib.hid ((F2.out.stay (IntsStay.grow G3.out)).stay (IntsStay.grow g4))
            have G4 := Lib.hid (((G1.out.trans2 G2.out).trans2 G3.out).trans2 g4)
            rw [← HBB.out]
            clear f4 g4 FN3
            go_wp2_with fail
            refine (SM.out _ _ _ F24.out F4.out).mono ?_
            rintro e w5 ⟨rfl, g5⟩
            have G5 := Lib.hid (G4.out.trans2 g5)
            clear g5
            go_wp2_with fail
            refine (KN.out _).mono ?_
            rintro e w6 ⟨rfl, g6⟩
            have G6 := Lib.hid (G5.out.trans2 g6)
            clear g6
            go_wp2
            go_ret
            exact ⟨rfl, G6.out⟩
end Go.Proofs.Ytldcbkememonaaa
