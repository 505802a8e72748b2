/-
  The walk of graticuleref13.All.
-/
import Derived.Test.YtldcbkememonaaaK6
import Derived.Test.YtldcbkememonaaaG7

namespace Go.Proofs.Ytldcbkememonaaa
open Go.RowKit
set_option linter.unusedVariables false
set_option linter.unusedSimpArgs false

theorem app_assoc (a b c : ByteArray) : a ++ b ++ c = a ++ (b ++ c) := by
  apply ByteArray.ext
  simp [ByteArray.data_append, Array.append_assoc]
theorem joinB_pull (a : ByteArray) : ∀ l : List ByteArray, joinB a l = a ++ joinB e0 l
  | [] => (app_e0 a).symm
  | x :: l => by
    show joinB (a ++ x) l = a ++ joinB (e0 ++ x) l
    rw [joinB_pull (a ++ x) l, joinB_pull (e0 ++ x) l, e0_app, app_assoc]
theorem pcs_sum (t tx : ByteArray) (ps : List Int) (hx : tx.size ≤ 60) : ∀ k i, ((pcs t tx ps k i).map ByteArray.size).sum ≤ 60 * (t.size - i)
  | 0, i => by simp [pcs]
  | k + 1, i => by
    unfold pcs
    split
    · have h1 := pcs_sum t tx ps hx k (i + 1)
      have h2 := pcs_sum t tx ps hx k (i + 2)
      have hb : b92.size = 1 := rfl
      split
      · split
        · rw [List.map_cons, List.sum_cons, hb]; omega
        · split
          · have := grpF_size tx ps ((by_ t (i + 1) : Int) - 48)
            rw [List.map_cons, List.sum_cons]; omega
          · rw [List.map_cons, List.sum_cons, hb]; omega
      · have hc : (bs [by_ t i]).size = 1 := by rw [bs_size]; rfl
        rw [List.map_cons, List.sum_cons, hc]; omega
    · simp
theorem expF_size (t tx : ByteArray) (ps : List Int) (hx : tx.size ≤ 60) (ht : t.size ≤ 60) : (expF t tx ps).size ≤ 3600 := by
  unfold expF
  rw [joinB_size]
  have := pcs_sum t tx ps hx (t.size + 1) 0
  have h0 : e0.size = 0 := rfl
  omega
theorem ext_nil (tx : ByteArray) (p : Nat) (h : tx.size ≤ p) : tx.extract p tx.size = e0 := by
  refine eq_of_by _ _ ?_ (fun k hk => ?_)
  · rw [ByteArray.size_extract]
    show _ = 0
    omega
  · rw [ByteArray.size_extract] at hk; omega
theorem tail_join (s tx : ByteArray) (p : Nat) : joinB s (tailP tx p) = s ++ tx.extract p tx.size := by
  unfold tailP
  by_cases h : p < tx.size
  · rw [if_pos h]; rfl
  · rw [if_neg h, ext_nil tx p (by omega), app_e0]; rfl
set_option maxRecDepth 100000 in
set_option maxHeartbeats 16000000 in
theorem all24_any (L : List Ins) (gr : Int) (t tx : ByteArray) (w : World) (a : Option Addr) (c g o : Nat) (hrd : RdI L g o w) (had : 0 < L.length → a = some ⟨g, o, none⟩) (LO : LOk L) (ht : t.size ≤ 60) (hx : tx.size ≤ 60) :
    Calls Try.prog 24 #[.agg #[.int .i64 gr, .slice a L.length c], .string t, .string tx] w (AllPost (allF gr L t tx) w) := by
  obtain ⟨R, hR⟩ : ∃ R, R = allF gr L t tx := ⟨_, rfl⟩
  rw [← hR]
  unfold allF at hR
  have FN := fun (p : Int) R' (hf : findF gr L tx p = some R') w' (h : Grow w w') => find12_any L tx gr p R' hf w' a c g o (hrd.grow h) had LO (by omega)
  have CK := check28_any t (by omega)
  obtain ⟨n, hN⟩ : ∃ n, n = L.length := ⟨_, rfl⟩
  obtain ⟨E, hE⟩ : ∃ E, E = checkF t := ⟨_, rfl⟩
  rw [← hN] at FN ⊢
  rw [← hE] at CK hR
  have FN := Lib.hid FN
  have CK := Lib.hid CK
  clear hrd had LO hN hE
  by_cases hE0 : E = 0
  · subst hE0
    rw [if_neg (by simp)] at hR
    obtain ⟨W2, hW2⟩ : ∃ W2, W2 = w.alloc (.cells #[.int .i64 gr, .slice a n c] 33) := ⟨_, rfl⟩
    have b24 : W2.heap[w.heap.size]? = some (.cells #[.int .i64 gr, .slice a n c] 33 (0, 0)) := by rw [hW2]; exact heap_alloc_new w _
    have g2 : Grow w W2 := by rw [hW2]; exact (Grow.refl w).alloc _
    obtain ⟨S, hS⟩ : ∃ S, S = joinB e0 (allP gr L t tx (tx.size + 2) 0) := ⟨_, rfl⟩
    rw [← hS] at hR
    have B24 := Lib.hid b24
    have G2 := Lib.hid g2
    have HR := Lib.hid hR
    have HS0 := Lib.hid hS
    have HW2 := Lib.hid hW2
    clear hW2 b24 g2 hR hS
    go_enter Try.func24, Try.ntmps24
    go_wp2_with fail
    refine (CK.out _).mono ?_
    rintro e w1 ⟨rfl, rfl⟩
    go_wp2
    rw [← HW2.out]
    go_loopw [9, 10] (fun t9 t10 wr => ∃ (p k : Nat) (s : ByteArray), p ≤ tx.size + 1 ∧ t9 = .string s ∧ t10 = .int .i64 p ∧ Hid (S = joinB s (allP gr L t tx k p) ∧ tx.size + 2 ≤ k + p) ∧ Hid (Grow W2 wr) ∧ s.size ≤ 4096) (fun _ t10 _ => tx.size + 1 - (intOf t10).toNat)
    case atStart => exact ⟨0, tx.size + 2, e0, by omega, rfl, rfl, Lib.hid ⟨HS0.out, by omega⟩, Lib.hid (Grow.refl _), (by show 0 ≤ 4096; omega)⟩
    case round =>
      obtain ⟨p, k, s, hp, rfl, rfl, HS, HG, hz⟩ := hrel
      have k0 : (0 : Int) ≤ (p : Int) := by omega
      have k5 : (p : Int) ≤ 61 := by omega
      obtain ⟨k', hk⟩ : ∃ k', k = k' + 1 ∨ (k = 0 ∧ tx.size < p) := by
        rcases Nat.eq_zero_or_pos k with h | h
        · exact ⟨0, .inr ⟨h, by have := HS.out.2; omega⟩⟩
        · exact ⟨k - 1, .inl (by omega)⟩
      by_cases hlt : p ≤ tx.size
      · have k1 : (p : Int) ≤ (tx.size : Int) := by omega
        have hk : k = k' + 1 := by omega
        subst hk
        have hs := HS.out.1
        unfold allP at hs
        rw [if_neg (by omega)] at hs
        have HK := Lib.hid HS.out.2
        clear HS
        have gwr := G2.out.trans2 HG.out
        have b24 := (Below.block HG.out _ (lt_blk B24.out)).trans B24.out
        have d0 := cell_blk b24 0
        have d1 := cell_blk b24 1
        simp at d0 d1
        have zb : w.heap.size < wr.heap.size := lt_blk b24
        obtain ⟨R', hR', _⟩ := findF_total gr L tx p
        have FNp := Lib.hid (FN.out p R' hR' wr gwr)
        rw [hR'] at hs
        have HF := Lib.hid hR'
        have HGW := Lib.hid gwr
        clear gwr b24 hR' hk
        cases R' with
        | none =>
          simp only at hs
          have HS2 := Lib.hid hs
          clear hs
          go_wp2_with fail
          refine FNp.out.mono ?_
          rintro e w3 ⟨v3, rfl, f3, g3⟩
          have f3 : v3 = .slice none 0 0 := f3
          subst f3
          have HG3 := Lib.hid (HG.out.trans2 g3)
          clear g3 FNp d0 d1
          go_wp2
          go_quiet (fail)
          obtain ⟨w4, hw4⟩ : ∃ w4, w4 = w3.drewN nq := ⟨_, rfl⟩
          have FIN := Lib.hid (show Grow w w4 from by rw [hw4]; exact below_drewN (G2.out.trans2 HG3.out) nq)
          rw [← hw4]
          clear hw4
          have hs2 := HS2.out
          rw [tail_join] at hs2
          have hsz : S.size = s.size + (tx.size - p) := by rw [hs2, ByteArray.size_append, ByteArray.size_extract]; omega
          have z9 : ¬ 9223372036854775807 < s.size + (tx.size - p) := by omega
          have HS3 := Lib.hid hs2
          clear hs2 HS2
          by_cases hov : 4096 < S.size
          · have q1 : (4096 : Int) < (s.size : Int) + ((tx.size - p : Nat) : Int) := by omega
            have HV := Lib.hid hov
            clear hov hsz
            go_wp2
            go_ret2
            exact ⟨by rw [HR.out, if_pos HV.out]; rfl, FIN.out⟩
          · have q1 : (s.size : Int) + ((tx.size - p : Nat) : Int) ≤ 4096 := by omega
            have HV := Lib.hid hov
            clear hov hsz
            go_wp2
            go_ret2
            exact ⟨by rw [HR.out, if_neg HV.out, HS3.out]; rfl, FIN.out⟩
        | some ps =>
          obtain ⟨hpi, hpl2, hpl3⟩ := findF_psIn HF.out
          simp only at hs
          obtain ⟨x0, hx0⟩ : ∃ x0, ps[0]? = some x0 := ⟨_, List.getElem?_eq_getElem (by omega)⟩
          obtain ⟨x1, hx1⟩ : ∃ x1, ps[1]? = some x1 := ⟨_, List.getElem?_eq_getElem (by omega)⟩
          have hb0 := hpi x0 (List.mem_of_getElem? hx0)
          have hb1 := hpi x1 (List.mem_of_getElem? hx1)
          rw [show ps.getD 0 0 = x0 by simp [List.getD, hx0], show ps.getD 1 0 = x1 by simp [List.getD, hx1]] at hs
          have HX0 := Lib.hid hx0
          have HX1 := Lib.hid hx1
          clear hx0 hx1 hpi
          obtain ⟨m, hm⟩ : ∃ m, m = ps.length := ⟨_, rfl⟩
          rw [← hm] at hpl2 hpl3
          have HM := Lib.hid hm
          clear hm
          go_wp2_with fail
          refine FNp.out.mono ?_
          rintro e w3 ⟨v3, rfl, f3, g3⟩
          have f3 : IntsIn ps v3 w3 := f3
          obtain ⟨gp, cp, hv3, _, hgp⟩ := World.ownsRow.form f3 (by rw [← HM.out]; omega)
          rw [← HM.out] at hv3
          subst hv3
          have HG3 := Lib.hid (HG.out.trans2 g3)
          have F3 := Lib.hid f3
          have cellp : ∀ (w' : World) (h : IntsIn ps (.slice (some ⟨gp, 0, none⟩) m cp) w'), w'.cell? ⟨gp, 0, none⟩ = some (.int .i64 x0) ∧ w'.cell? ⟨gp, 1, none⟩ = some (.int .i64 x1) := fun w' h => by
            unfold IntsIn at h
            rw [← HM.out] at h
            refine ⟨?_, ?_⟩
            · rw [World.ownsRow.cellAt h 0 (by omega), List.getElem?_map, HX0.out]; rfl
            · rw [World.ownsRow.cellAt h 1 (by omega), List.getElem?_map, HX1.out]; rfl
          have CP := Lib.hid cellp
          obtain ⟨y0, y1⟩ := cellp w3 f3
          clear g3 FNp d0 d1 f3 cellp
          have m0 : (0 : Int) < (m : Int) := by omega
          have m1 : (1 : Int) < (m : Int) := by omega
          have m2 : decide ((m : Int) < 2) = false := by simp; omega
          have m0n : 0 < m := by omega
          have m1n : 1 < m := by omega
          by_cases hlo : x0 < (p : Int)
          · rw [if_pos (.inl hlo)] at hs
            have HS2 := Lib.hid hs
            have e0' : decide (x0 < (p : Int)) = true := by simpa using hlo
            clear hs hlo
            go_wp2
            go_quiet (fail)
            obtain ⟨w4, hw4⟩ : ∃ w4, w4 = w3.drewN nq := ⟨_, rfl⟩
            have FIN := Lib.hid (show Grow w w4 from by rw [hw4]; exact below_drewN (G2.out.trans2 HG3.out) nq)
            rw [← hw4]
            clear hw4
            have hs2 := HS2.out
            rw [tail_join] at hs2
            have hsz : S.size = s.size + (tx.size - p) := by rw [hs2, ByteArray.size_append, ByteArray.size_extract]; omega
            have z9 : ¬ 9223372036854775807 < s.size + (tx.size - p) := by omega
            have HS3 := Lib.hid hs2
            clear hs2 HS2
            by_cases hov : 4096 < S.size
            · have q1 : (4096 : Int) < (s.size : Int) + ((tx.size - p : Nat) : Int) := by omega
              have HV := Lib.hid hov
              clear hov hsz
              go_wp2
              go_ret2
              exact ⟨by rw [HR.out, if_pos HV.out]; rfl, FIN.out⟩
            · have q1 : (s.size : Int) + ((tx.size - p : Nat) : Int) ≤ 4096 := by omega
              have HV := Lib.hid hov
              clear hov hsz
              go_wp2
              go_ret2
              exact ⟨by rw [HR.out, if_neg HV.out, HS3.out]; rfl, FIN.out⟩
          · have e0' : decide (x0 < (p : Int)) = false := by simpa using hlo
            by_cases hlo2 : x1 < x0
            · rw [if_pos (.inr hlo2)] at hs
              have HS2 := Lib.hid hs
              have e1 : decide (x1 < x0) = true := by simpa using hlo2
              clear hs
              go_wp2
              go_quiet (fail)
              obtain ⟨w4, hw4⟩ : ∃ w4, w4 = w3.drewN nq := ⟨_, rfl⟩
              have FIN := Lib.hid (show Grow w w4 from by rw [hw4]; exact below_drewN (G2.out.trans2 HG3.out) nq)
              rw [← hw4]
              clear hw4
              have hs2 := HS2.out
              rw [tail_join] at hs2
              have hsz : S.size = s.size + (tx.size - p) := by rw [hs2, ByteArray.size_append, ByteArray.size_extract]; omega
              have z9 : ¬ 9223372036854775807 < s.size + (tx.size - p) := by omega
              have HS3 := Lib.hid hs2
              clear hs2 HS2
              by_cases hov : 4096 < S.size
              · have q1 : (4096 : Int) < (s.size : Int) + ((tx.size - p : Nat) : Int) := by omega
                have HV := Lib.hid hov
                clear hov hsz
                go_wp2
                go_ret2
                exact ⟨by rw [HR.out, if_pos HV.out]; rfl, FIN.out⟩
              · have q1 : (s.size : Int) + ((tx.size - p : Nat) : Int) ≤ 4096 := by omega
                have HV := Lib.hid hov
                clear hov hsz
                go_wp2
                go_ret2
                exact ⟨by rw [HR.out, if_neg HV.out, HS3.out]; rfl, FIN.out⟩
            · have e1 : decide (x1 < x0) = false := by simpa using hlo2
              rw [if_neg (by omega)] at hs
              obtain ⟨X0, rfl⟩ : ∃ X0 : Nat, x0 = X0 := ⟨x0.toNat, by omega⟩
              obtain ⟨X1, rfl⟩ : ∃ X1 : Nat, x1 = X1 := ⟨x1.toNat, by omega⟩
              rw [Int.toNat_natCast, Int.toNat_natCast] at hs
              have HS2 := Lib.hid hs
              clear hs
              have j1 : (p : Int) ≤ (X0 : Int) := by omega
              have j2 : (X0 : Int) ≤ (tx.size : Int) := by omega
              have j3 : (X1 : Int) ≤ (tx.size : Int) := by omega
              have j4 : (0 : Int) ≤ (X0 : Int) := by omega
              have j5 : (0 : Int) ≤ (X1 : Int) := by omega
              have j6 : (X0 : Int) ≤ (X1 : Int) := by omega
              have n0 : decide (X0 < p) = false := by simp; omega
              have n1 : decide (X1 < X0) = false := by simp; omega
              have n2 : decide (m < 2) = false := by simp; omega
              go_wp2
              go_quiet (fail)
              obtain ⟨w4, hw4⟩ : ∃ w4, w4 = w3.drewN nq := ⟨_, rfl⟩
              have g4 : Grow w3 w4 := by rw [hw4]; exact below_drewN (Grow.refl w3) nq
              have HG4 := Lib.hid (HG3.out.trans2 g4)
              have F4 := Lib.hid (F3.out.grow g4)
              obtain ⟨y0', y1'⟩ := CP.out w4 F4.out
              have hgp4 : gp < w4.heap.size := Nat.lt_of_lt_of_le hgp g4.size
              have EX := fun w' (h : Grow w4 w') => expand26_any t tx ps (some ⟨gp, 0, none⟩) cp w' (by
                obtain ⟨a', c', e', rd⟩ := (F4.out.grow h).rdN
                injection e' with e1 _ _
                rw [← e1] at rd
                exact rd) (by rw [← HM.out]; omega) (by omega) (by omega)
              rw [← HM.out] at EX
              obtain ⟨xp, hxp⟩ : ∃ xp, xp = expF t tx ps := ⟨_, rfl⟩
              have hxz : xp.size ≤ 3600 := by rw [hxp]; exact expF_size t tx ps hx ht
              rw [← hxp] at EX
              have EX := Lib.hid EX
              have HXP := Lib.hid hxp
              obtain ⟨ex, hex⟩ : ∃ ex, ex = tx.extract p X0 := ⟨_, rfl⟩
              have exz : ex.size ≤ 60 := by rw [hex, ByteArray.size_extract]; omega
              have HEX := Lib.hid hex
              have z9 : ¬ 9223372036854775807 < s.size + (min X0 tx.size - p) := by omega
              have z10 : ¬ 9223372036854775807 < s.size + (min X0 tx.size - p) + xp.size := by omega
              rw [← hw4]
              clear hw4 g4 y0 y1 e0' e1 hlo hlo2 n0 n1 n2 m2 hxp hex
              go_wp2
              go_region_held3 (fun W => Grow w4 W ∧ W.cell? ⟨gp, 0, none⟩ = some (.int .i64 (X0 : Int))) (first | exact ⟨(Grow.refl _).drew, y0'⟩ | exact ⟨(Grow.refl _).drew.trans g5, (Below.cell ((Grow.refl _).drew.trans g5) (p := ⟨gp, 0, none⟩) hgp4).trans y0'⟩) ((go_at_call 26; refine (EX.out _ (Grow.refl w4).drew).mono ?_; rintro e w5 ⟨rfl, g5⟩))
              have g5' : Grow w4 w5 := (Grow.refl w4).drew.trans2 g5
              have F5 := Lib.hid (F4.out.grow g5')
              have HG5 := Lib.hid (HG4.out.trans2 g5')
              obtain ⟨y0, y1⟩ := CP.out w5 F5.out
              rename_i hHeld
              clear hHeld g5 g5' y0' y1' EX
              obtain ⟨s5, hs5⟩ : ∃ s5, s5 = s ++ tx.extract p X0 ++ xp := ⟨_, rfl⟩
              rw [← hs5]
              have hz5 : s5.size ≤ 10000 := by rw [hs5, ← HEX.out, ByteArray.size_append, ByteArray.size_append]; omega
              have hs := HS2.out
              have hcons : ∀ B : List ByteArray, joinB s (tx.extract p X0 :: (pcs t tx ps (t.size + 1) 0 ++ B)) = joinB s5 B := fun B => by
                rw [hs5, HXP.out]
                show joinB (s ++ tx.extract p X0) (pcs t tx ps (t.size + 1) 0 ++ B) = _
                rw [joinB_append, joinB_pull (s ++ tx.extract p X0)]
                rfl
              rw [hcons] at hs
              have HS3 := Lib.hid hs
              have HS5 := Lib.hid hs5
              clear hs hcons HS2 hs5 z9 z10 hxz exz
              cases he : ((X0 : Int) == (X1 : Int)) with
              | true =>
                have HEQ := Lib.hid (show X0 = X1 from by simp at he; omega)
                by_cases hin : X1 < tx.size
                · have i1 : (X1 : Int) < (tx.size : Int) := by omega
                  have i2 : (X1 : Int) ≤ (X1 : Int) + 1 := by omega
                  have i3 : (X1 : Int) + 1 ≤ (tx.size : Int) := by omega
                  have i4 : ((X1 : Int) + 1).toNat = X1 + 1 := by omega
                  have hs := HS3.out
                  rw [if_pos (by rw [HEQ.out]), if_pos hin] at hs
                  have hs : S = joinB (s5 ++ tx.extract X1 (X1 + 1)) (allP gr L t tx k' (X1 + 1)) := hs
                  obtain ⟨s6, hs6⟩ : ∃ s6, s6 = s5 ++ tx.extract X1 (X1 + 1) := ⟨_, rfl⟩
                  rw [← hs6] at hs
                  have hz6 : s6.size = s5.size + 1 := by rw [hs6, ByteArray.size_append, ByteArray.size_extract]; omega
                  have HZ6 := Lib.hid (show s6.size ≤ S.size from by rw [hs, joinB_size]; omega)
                  have z9 : ¬ 9223372036854775807 < s5.size + (min (X1 + 1) tx.size - X1) := by omega
                  have HS4 := Lib.hid hs
                  have HS6 := Lib.hid hs6
                  have hmn : min (X1 + 1) tx.size - X1 = 1 := by omega
                  have HZ6B := Lib.hid hz6
                  clear hs HS3 hs6 hz6
                  by_cases hov : 4096 < s5.size + 1
                  · have q1 : (4096 : Int) < (s5.size : Int) + 1 := by omega
                    have HV := Lib.hid (show 4096 < S.size from by have := HZ6.out; have := HZ6B.out; omega)
                    clear hov
                    go_wp2
                    go_quiet (fail)
                    have FIN := Lib.hid (below_drewN (G2.out.trans2 HG5.out) nq)
                    go_wp2
                    go_ret2
                    exact ⟨by rw [HR.out, if_pos HV.out]; rfl, FIN.out⟩
                  · have q1 : (s5.size : Int) + 1 ≤ 4096 := by omega
                    have HZ7 := Lib.hid (show s6.size ≤ 4096 from by have := HZ6B.out; omega)
                    clear hov
                    go_wp2
                    go_quiet (fail)
                    have HG6 := Lib.hid (below_drewN HG5.out nq)
                    go_wp2
                    go_roundw
                    case rel => exact ⟨X1 + 1, k', s6, by omega, by rw [HS6.out], by go_num, Lib.hid ⟨HS4.out, by have := HK.out; have := HEQ.out; omega⟩, HG6, HZ7.out⟩
                    case measure => have := HEQ.out; simp [intOf]; omega
                · have i1 : ¬ (X1 : Int) < (tx.size : Int) := by omega
                  have hs := HS3.out
                  rw [if_pos (by rw [HEQ.out]), if_neg hin, List.nil_append] at hs
                  have HZ6 := Lib.hid (show s5.size ≤ S.size from by rw [hs, joinB_size]; omega)
                  have HS4 := Lib.hid hs
                  clear hs HS3
                  by_cases hov : 4096 < s5.size
                  · have q1 : (4096 : Int) < (s5.size : Int) := by omega
                    have HV := Lib.hid (show 4096 < S.size from by have := HZ6.out; omega)
                    clear hov
                    go_wp2
                    go_quiet (fail)
                    have FIN := Lib.hid (below_drewN (G2.out.trans2 HG5.out) nq)
                    go_wp2
                    go_ret2
                    exact ⟨by rw [HR.out, if_pos HV.out]; rfl, FIN.out⟩
                  · have q1 : (s5.size : Int) ≤ 4096 := by omega
                    have HZ7 := Lib.hid (show s5.size ≤ 4096 from by omega)
                    clear hov
                    go_wp2
                    go_quiet (fail)
                    have HG6 := Lib.hid (below_drewN HG5.out nq)
                    go_wp2
                    go_roundw
                    case rel => exact ⟨X1 + 1, k', s5, by omega, rfl, by go_num, Lib.hid ⟨HS4.out, by have := HK.out; have := HEQ.out; omega⟩, HG6, HZ7.out⟩
                    case measure => have := HEQ.out; simp [intOf]; omega
              | false =>
                have HEQ := Lib.hid (show ¬ X0 = X1 from by simp at he; omega)
                have hs := HS3.out
                rw [if_neg (by have := HEQ.out; omega)] at hs
                have HZ6 := Lib.hid (show s5.size ≤ S.size from by rw [hs, joinB_size]; omega)
                have HS4 := Lib.hid hs
                clear hs HS3
                by_cases hov : 4096 < s5.size
                · have q1 : (4096 : Int) < (s5.size : Int) := by omega
                  have HV := Lib.hid (show 4096 < S.size from by have := HZ6.out; omega)
                  clear hov
                  go_wp2
                  go_quiet (fail)
                  have FIN := Lib.hid (below_drewN (G2.out.trans2 HG5.out) nq)
                  go_wp2
                  go_ret2
                  exact ⟨by rw [HR.out, if_pos HV.out]; rfl, FIN.out⟩
                · have q1 : (s5.size : Int) ≤ 4096 := by omega
                  have HZ7 := Lib.hid (show s5.size ≤ 4096 from by omega)
                  clear hov
                  go_wp2
                  go_quiet (fail)
                  have HG6 := Lib.hid (below_drewN HG5.out nq)
                  go_wp2
                  go_roundw
                  case rel => exact ⟨X1, k', s5, by omega, rfl, rfl, Lib.hid ⟨HS4.out, by have := HK.out; have := HEQ.out; omega⟩, HG6, HZ7.out⟩
                  case measure => have := HEQ.out; simp [intOf]; omega
      · have k1 : ¬ (p : Int) ≤ (tx.size : Int) := by omega
        have hs := HS.out.1
        have ha : allP gr L t tx k p = [] := by
          rcases hk with hk | ⟨hk, _⟩
          · rw [hk]
            unfold allP
            rw [if_pos (by omega)]
          · rw [hk]
            show tailP tx p = []
            unfold tailP
            rw [if_neg (by omega)]
        rw [ha] at hs
        have HSS := Lib.hid (show S = s from hs)
        have q1 : (s.size : Int) ≤ 4096 := by omega
        have HZ := Lib.hid (show ¬ 4096 < S.size from by rw [HSS.out]; omega)
        have FIN := Lib.hid (G2.out.trans2 HG.out)
        clear hs
        clear ha hk HS k5 hlt
        go_wp2
        go_ret2
        exact ⟨by rw [HR.out, if_neg HZ.out, HSS.out]; rfl, FIN.out⟩
  · rw [if_pos hE0] at hR
    have HR := Lib.hid hR
    have hE2 : (E != 0) = true := by simpa [bne] using hE0
    have hE3 : (E == 0) = false := by simpa using hE0
    clear hR hE0
    go_enter Try.func24, Try.ntmps24
    go_wp2_with fail
    refine (CK.out _).mono ?_
    rintro e w1 ⟨rfl, rfl⟩
    go_wp2
    go_ret2
    exact ⟨by rw [HR.out]; rfl, (Grow.refl w).alloc _⟩
end Go.Proofs.Ytldcbkememonaaa
