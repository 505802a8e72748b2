/-
  The walk of subst.All.
-/
import Derived.Test.YtldcbkememonaaaK5

namespace Go.Proofs.Ytldcbkememonaaa
open Go.RowKit
set_option linter.unusedVariables false
set_option linter.unusedSimpArgs false

/-- what All answers -/
def allF (gr : Int) (L : List Ins) (t tx : ByteArray) : ByteArray × Int :=
  if checkF t ≠ 0 then (e0, checkF t) else if 4096 < (joinB e0 (allP gr L t tx (tx.size + 2) 0)).size then (e0, 13) else (joinB e0 (allP gr L t tx (tx.size + 2) 0), 0)
def AllPost (R : ByteArray × Int) (w : World) (e : Ending) (w' : World) : Prop := e = .returned (.tuple #[.string R.1, .int .i64 R.2]) ∧ Grow w w'
theorem ints_fr {xs : List Int} {u : Value} {B r : Nat} {most : Int} {st1 : WS} {v1 : Value} {w w' : World} (h : IntsIn xs u w) (k : WAt B r most st1 v1 w) (f : Fr r v1 w w') : IntsIn xs u w' := by
  rcases h.2 with ⟨h1, h2⟩ | ⟨g, cap, cur, h1, h2, h3, h4⟩
  · refine ⟨h.1, .inl ⟨h1, h2⟩⟩
  · refine ⟨h.1, .inr ⟨g, cap, cur, h1, h2, (f.block g (lt_blk h3) (fun e => ?_) (fun e => ?_)).trans h3, h4⟩⟩
    · rw [e, k.blk] at h3
      injection h3 with h3
      injection h3 with _ h3 _
      exact absurd h3 (by decide)
    · rcases k.own.2 with ⟨q1, _⟩ | ⟨g', cap', cur', q1, _, q3, _⟩
      · rw [q1] at e; cases e
      · rw [q1] at e
        have e' : g = g' := by simpa [Value.ownBlock] using e
        rw [← e', h3] at q3
        injection q3 with q3
        injection q3 with _ q3 _
        exact absurd q3 (by decide)
theorem laysW_most (most : Nat) (st : WS) (x : ByteArray) (h : st.b.size ≤ most) : (laysW most st x).b.size ≤ most := by
  unfold laysW
  split
  · exact h
  · rename_i hn
    simp only
    rw [ByteArray.size_append]
    omega
theorem laysA_most (most : Nat) : ∀ (l : List ByteArray) (st : WS), st.b.size ≤ most → (laysA most st l).b.size ≤ most
  | [], st, h => h
  | x :: l, st, h => laysA_most most l _ (laysW_most most st x h)
theorem WStp.grows {B r : Nat} {most : Int} {w W2 wr : World} {st1 : WS} {v1 : Value} (h : WStp B r most (.slice none 0 0) W2 st1 v1 wr) (hg : Grow w W2) (hr : w.heap.size ≤ r) : Grow w wr :=
  Below.trans hg (h.fr.below hr (fun g hg => by cases hg) hg.size)
set_option maxRecDepth 100000 in
set_option maxHeartbeats 16000000 in
theorem all23_any (L : List Ins) (gr : Int) (t tx : ByteArray) (w : World) (a : Option Addr) (c g o : Nat) (hrd : RdI L g o w) (had : 0 < L.length → a = some ⟨g, o, none⟩) (LO : LOk L) (ht : t.size ≤ 60) (hx : tx.size ≤ 60) :
    Calls Try.prog 23 #[.agg #[.int .i64 gr, .slice a L.length c], .string t, .string tx] w (AllPost (allF gr L t tx) w) := by
  obtain ⟨R, hR⟩ : ∃ R, R = allF gr L t tx := ⟨_, rfl⟩
  rw [← hR]
  unfold allF at hR
  have FN := fun (p : Int) R' (hf : findF gr L tx p = some R') w' (h : Grow w w') => find_any L tx gr p R' hf w' a c g o (hrd.grow h) had LO (by omega)
  have CK := check27_any t (by omega)
  obtain ⟨n, hN⟩ : ∃ n, n = L.length := ⟨_, rfl⟩
  obtain ⟨E, hE⟩ : ∃ E, E = checkF t := ⟨_, rfl⟩
  rw [← hN] at FN ⊢
  rw [← hE] at CK hR
  have FN := Lib.hid FN
  have CK := Lib.hid CK
  clear hrd had LO hN hE
  by_cases hE0 : E = 0
  · subst hE0
    rw [if_neg (by simp)] at hR
    obtain ⟨W2, hW2⟩ : ∃ W2, W2 = (w.alloc (.cells #[.int .i64 gr, .slice a n c] 24)).alloc (.cells #[.slice none 0 0, .int .i64 4096, .bool false] 82) := ⟨_, rfl⟩
    have z2 : W2.heap.size = w.heap.size + 2 := by rw [hW2]; simp
    have b24 : W2.heap[w.heap.size]? = some (.cells #[.int .i64 gr, .slice a n c] 24 (0, 0)) := by
      rw [hW2, Below.heap_alloc _ _ _ (by simp)]; exact heap_alloc_new w _
    have b82 : W2.heap[w.heap.size + 1]? = some (.cells #[.slice none 0 0, .int .i64 4096, .bool false] 82 (0, 0)) := by
      rw [hW2]; exact heap_alloc_two w _ _
    have g2 : Grow w W2 := by rw [hW2]; exact ((Grow.refl w).alloc _).alloc _
    obtain ⟨r, hr⟩ : ∃ r, r = w.heap.size + 1 := ⟨_, rfl⟩
    rw [← hr] at b82
    have WA : WAt 0 r 4096 ⟨e0, false⟩ (.slice none 0 0) W2 := ⟨b82, World.ownsRow_nil _ _ _ _, Nat.zero_le _⟩
    obtain ⟨S, hS⟩ : ∃ S, S = joinB e0 (allP gr L t tx (tx.size + 2) 0) := ⟨_, rfl⟩
    obtain ⟨RES, hRES⟩ : ∃ RES, RES = laysA 4096 ⟨e0, false⟩ (allP gr L t tx (tx.size + 2) 0) := ⟨_, rfl⟩
    rw [← hS] at hR
    have SP := Lib.hid (show (4096 < S.size ∧ RES.ov = true) ∨ (S.size ≤ 4096 ∧ RES = ⟨S, false⟩) from by
      rw [hRES, hS]
      exact laysA_spec 4096 (allP gr L t tx (tx.size + 2) 0) ⟨e0, false⟩ rfl (by show 0 ≤ 4096; omega))
    have B24 := Lib.hid b24
    have G2 := Lib.hid g2
    have HWA := Lib.hid WA
    have HR := Lib.hid hR
    have HRES := Lib.hid hRES
    have HW2 := Lib.hid hW2
    have hr0 : w.heap.size < r := by omega
    have HRR := Lib.hid hr
    have Z2 := Lib.hid z2
    clear hW2 b24 b82 g2 WA hR hRES hS z2
    go_enter Try.func23, Try.ntmps23
    go_wp2_with fail
    refine (CK.out _).mono ?_
    rintro e w1 ⟨rfl, rfl⟩
    go_wp2
    rw [← HW2.out, ← HRR.out]
    clear hr
    go_loopw [10] (fun t10 wr => ∃ (p k : Nat) (st1 : WS) (v1 : Value), p ≤ tx.size + 1 ∧ t10 = .int .i64 p ∧ Hid (RES = laysA 4096 st1 (allP gr L t tx k p) ∧ tx.size + 2 ≤ k + p) ∧ Hid (WStp 0 r 4096 (.slice none 0 0) W2 st1 v1 wr) ∧ Hid (st1.b.size ≤ 4096)) (fun t10 _ => tx.size + 1 - (intOf t10).toNat)
    case atStart => exact ⟨0, tx.size + 2, ⟨e0, false⟩, _, by omega, rfl, Lib.hid ⟨HRES.out, by omega⟩, Lib.hid ⟨HWA.out, Fr.refl _ _ _, NewB.self _ _⟩, Lib.hid (by show 0 ≤ 4096; omega)⟩
    case round =>
      obtain ⟨p, k, st1, v1, hp, rfl, HS, HW, HZ⟩ := hrel
      have k0 : (0 : Int) ≤ (p : Int) := by omega
      have k5 : (p : Int) ≤ 61 := by omega
      obtain ⟨k', hk⟩ : ∃ k', k = k' + 1 ∨ (k = 0 ∧ tx.size < p) := by
        rcases Nat.eq_zero_or_pos k with h | h
        · exact ⟨0, .inr ⟨h, by have := HS.out.2; omega⟩⟩
        · exact ⟨k - 1, .inl (by omega)⟩
      by_cases hlt : p ≤ tx.size
      · have k1 : (p : Int) ≤ (tx.size : Int) := by omega
        have hk : k = k' + 1 := by omega
        subst hk
        have hs := HS.out.1
        unfold allP at hs
        rw [if_neg (by omega)] at hs
        have HK := Lib.hid HS.out.2
        clear HS
        have gwr := HW.out.grows G2.out (by omega)
        have b24 := (HW.out.fr.block w.heap.size (lt_blk B24.out) (by omega) (by simp [Value.ownBlock])).trans B24.out
        have d0 := cell_blk b24 0
        have d1 := cell_blk b24 1
        simp at d0 d1
        have zb : w.heap.size < wr.heap.size := lt_blk b24
        obtain ⟨R', hR', _⟩ := findF_total gr L tx p
        have FNp := Lib.hid (FN.out p R' hR' wr gwr)
        rw [hR'] at hs
        have HF := Lib.hid hR'
        have HGW := Lib.hid gwr
        clear gwr b24 hR' hk
        cases R' with
        | none =>
          simp only at hs
          have HS2 := Lib.hid hs
          clear hs
          go_wp2_with fail
          refine FNp.out.mono ?_
          rintro e w3 ⟨v3, rfl, f3, g3⟩
          have f3 : v3 = .slice none 0 0 := f3
          subst f3
          have HW3 := Lib.hid (HW.out.grow g3)
          clear g3 FNp d0 d1
          go_wp2
          go_quiet (fail)
          obtain ⟨w4, hw4⟩ : ∃ w4, w4 = w3.drewN nq := ⟨_, rfl⟩
          have g4 : Grow w3 w4 := by rw [hw4]; exact below_drewN (Grow.refl w3) nq
          have HW4 := Lib.hid (HW3.out.grow g4)
          rw [← hw4]
          clear hw4 g4
          by_cases htl : p < tx.size
          · have j1 : (p : Int) < (tx.size : Int) := by omega
            have hs2 := HS2.out
            rw [show tailP tx p = [tx.extract p tx.size] from by unfold tailP; rw [if_pos htl]] at hs2
            have HS3 := Lib.hid (show RES = laysW 4096 st1 (tx.extract p tx.size) from hs2)
            have LA := Lib.hid (lays_any 0 r 4096 st1 v1 (tx.extract p tx.size) ((w4).alloc (.cells #[.string (tx.extract p tx.size)] 9)) (HW4.out.at_.grow ((Grow.refl _).alloc _)) (w4).heap.size 0 1 (by simp [go_sem]) (by have := HZ.out; omega) (by rw [ByteArray.size_extract]; omega) (by omega) (by omega))
            clear hs2 HS2 htl
            go_wp2_with fail
            refine LA.out.mono ?_
            rintro e w5 ⟨rfl, v5, wa5, fr5, nb5⟩
            have HW5 := Lib.hid (HW4.out.step ((Grow.refl _).alloc _) wa5 fr5 nb5)
            clear wa5 fr5 nb5 LA
            have c0 := cell_blk HW5.out.at_.blk 0
            have c2 := cell_blk HW5.out.at_.blk 2
            simp at c0 c2
            have hrz := HW5.out.at_.lt
            have FIN := Lib.hid (HW5.out.grows G2.out (by omega))
            rw [← HS3.out] at c2
            rcases SP.out with ⟨q1, q2⟩ | ⟨q1, q2⟩
            · rw [q2] at c2
              have HQ := Lib.hid q1
              clear q1 q2
              go_wp2
              go_ret2
              exact ⟨by rw [HR.out, if_pos HQ.out]; rfl, FIN.out⟩
            · have CV := conv80s (s := S) (by have := HW5.out.at_.own; rw [← HS3.out, q2] at this; exact this)
              rw [q2] at c2
              have HQ := Lib.hid q1
              clear q1 q2
              go_wp2
              go_ret2
              exact ⟨by rw [HR.out, if_neg (Nat.not_lt.2 HQ.out)]; rfl, FIN.out⟩
          · have j1 : ¬ (p : Int) < (tx.size : Int) := by omega
            have hs2 := HS2.out
            rw [show tailP tx p = [] from by unfold tailP; rw [if_neg htl]] at hs2
            have HS3 := Lib.hid (show RES = st1 from hs2)
            clear hs2 HS2 htl
            have c0 := cell_blk HW4.out.at_.blk 0
            have c2 := cell_blk HW4.out.at_.blk 2
            simp at c0 c2
            have hrz := HW4.out.at_.lt
            have FIN := Lib.hid (HW4.out.grows G2.out (by omega))
            rw [← HS3.out] at c2
            rcases SP.out with ⟨q1, q2⟩ | ⟨q1, q2⟩
            · rw [q2] at c2
              have HQ := Lib.hid q1
              clear q1 q2
              go_wp2
              go_ret2
              exact ⟨by rw [HR.out, if_pos HQ.out]; rfl, FIN.out⟩
            · have CV := conv80s (s := S) (by have := HW4.out.at_.own; rw [← HS3.out, q2] at this; exact this)
              rw [q2] at c2
              have HQ := Lib.hid q1
              clear q1 q2
              go_wp2
              go_ret2
              exact ⟨by rw [HR.out, if_neg (Nat.not_lt.2 HQ.out)]; rfl, FIN.out⟩
        | some ps =>
          obtain ⟨hpi, hpl2, hpl3⟩ := findF_psIn HF.out
          simp only at hs
          obtain ⟨x0, hx0⟩ : ∃ x0, ps[0]? = some x0 := ⟨_, List.getElem?_eq_getElem (by omega)⟩
          obtain ⟨x1, hx1⟩ : ∃ x1, ps[1]? = some x1 := ⟨_, List.getElem?_eq_getElem (by omega)⟩
          have hb0 := hpi x0 (List.mem_of_getElem? hx0)
          have hb1 := hpi x1 (List.mem_of_getElem? hx1)
          rw [show ps.getD 0 0 = x0 by simp [List.getD, hx0], show ps.getD 1 0 = x1 by simp [List.getD, hx1]] at hs
          have HX0 := Lib.hid hx0
          have HX1 := Lib.hid hx1
          clear hx0 hx1 hpi
          obtain ⟨m, hm⟩ : ∃ m, m = ps.length := ⟨_, rfl⟩
          rw [← hm] at hpl2 hpl3
          have HM := Lib.hid hm
          clear hm
          go_wp2_with fail
          refine FNp.out.mono ?_
          rintro e w3 ⟨v3, rfl, f3, g3⟩
          have f3 : IntsIn ps v3 w3 := f3
          obtain ⟨gp, cp, hv3, _, hgp⟩ := World.ownsRow.form f3 (by rw [← HM.out]; omega)
          rw [← HM.out] at hv3
          subst hv3
          have HW3 := Lib.hid (HW.out.grow g3)
          have F3 := Lib.hid f3
          have cellp : ∀ (w' : World) (h : IntsIn ps (.slice (some ⟨gp, 0, none⟩) m cp) w'), w'.cell? ⟨gp, 0, none⟩ = some (.int .i64 x0) ∧ w'.cell? ⟨gp, 1, none⟩ = some (.int .i64 x1) := fun w' h => by
            unfold IntsIn at h
            rw [← HM.out] at h
            refine ⟨?_, ?_⟩
            · rw [World.ownsRow.cellAt h 0 (by omega), List.getElem?_map, HX0.out]; rfl
            · rw [World.ownsRow.cellAt h 1 (by omega), List.getElem?_map, HX1.out]; rfl
          have CP := Lib.hid cellp
          obtain ⟨y0, y1⟩ := cellp w3 f3
          clear g3 FNp d0 d1 f3 cellp
          have m0 : (0 : Int) < (m : Int) := by omega
          have m1 : (1 : Int) < (m : Int) := by omega
          by_cases hlo : x0 < (p : Int)
          · rw [if_pos (.inl hlo)] at hs
            have HS2 := Lib.hid hs
            have e0 : decide (x0 < (p : Int)) = true := by simpa using hlo
            clear hs hlo
            go_wp2
            go_quiet (fail)
            obtain ⟨w4, hw4⟩ : ∃ w4, w4 = w3.drewN nq := ⟨_, rfl⟩
            have g4 : Grow w3 w4 := by rw [hw4]; exact below_drewN (Grow.refl w3) nq
            have HW4 := Lib.hid (HW3.out.grow g4)
            rw [← hw4]
            clear hw4 g4
            by_cases htl : p < tx.size
            · have j1 : (p : Int) < (tx.size : Int) := by omega
              have hs2 := HS2.out
              rw [show tailP tx p = [tx.extract p tx.size] from by unfold tailP; rw [if_pos htl]] at hs2
              have HS3 := Lib.hid (show RES = laysW 4096 st1 (tx.extract p tx.size) from hs2)
              have LA := Lib.hid (lays_any 0 r 4096 st1 v1 (tx.extract p tx.size) ((w4).alloc (.cells #[.string (tx.extract p tx.size)] 9)) (HW4.out.at_.grow ((Grow.refl _).alloc _)) (w4).heap.size 0 1 (by simp [go_sem]) (by have := HZ.out; omega) (by rw [ByteArray.size_extract]; omega) (by omega) (by omega))
              clear hs2 HS2 htl
              go_wp2_with fail
              refine LA.out.mono ?_
              rintro e w5 ⟨rfl, v5, wa5, fr5, nb5⟩
              have HW5 := Lib.hid (HW4.out.step ((Grow.refl _).alloc _) wa5 fr5 nb5)
              clear wa5 fr5 nb5 LA
              have c0 := cell_blk HW5.out.at_.blk 0
              have c2 := cell_blk HW5.out.at_.blk 2
              simp at c0 c2
              have hrz := HW5.out.at_.lt
              have FIN := Lib.hid (HW5.out.grows G2.out (by omega))
              rw [← HS3.out] at c2
              rcases SP.out with ⟨q1, q2⟩ | ⟨q1, q2⟩
              · rw [q2] at c2
                have HQ := Lib.hid q1
                clear q1 q2
                go_wp2
                go_ret2
                exact ⟨by rw [HR.out, if_pos HQ.out]; rfl, FIN.out⟩
              · have CV := conv80s (s := S) (by have := HW5.out.at_.own; rw [← HS3.out, q2] at this; exact this)
                rw [q2] at c2
                have HQ := Lib.hid q1
                clear q1 q2
                go_wp2
                go_ret2
                exact ⟨by rw [HR.out, if_neg (Nat.not_lt.2 HQ.out)]; rfl, FIN.out⟩
            · have j1 : ¬ (p : Int) < (tx.size : Int) := by omega
              have hs2 := HS2.out
              rw [show tailP tx p = [] from by unfold tailP; rw [if_neg htl]] at hs2
              have HS3 := Lib.hid (show RES = st1 from hs2)
              clear hs2 HS2 htl
              have c0 := cell_blk HW4.out.at_.blk 0
              have c2 := cell_blk HW4.out.at_.blk 2
              simp at c0 c2
              have hrz := HW4.out.at_.lt
              have FIN := Lib.hid (HW4.out.grows G2.out (by omega))
              rw [← HS3.out] at c2
              rcases SP.out with ⟨q1, q2⟩ | ⟨q1, q2⟩
              · rw [q2] at c2
                have HQ := Lib.hid q1
                clear q1 q2
                go_wp2
                go_ret2
                exact ⟨by rw [HR.out, if_pos HQ.out]; rfl, FIN.out⟩
              · have CV := conv80s (s := S) (by have := HW4.out.at_.own; rw [← HS3.out, q2] at this; exact this)
                rw [q2] at c2
                have HQ := Lib.hid q1
                clear q1 q2
                go_wp2
                go_ret2
                exact ⟨by rw [HR.out, if_neg (Nat.not_lt.2 HQ.out)]; rfl, FIN.out⟩
          · have e0 : decide (x0 < (p : Int)) = false := by simpa using hlo
            by_cases hlo2 : x1 < x0
            · rw [if_pos (.inr hlo2)] at hs
              have HS2 := Lib.hid hs
              have e1 : decide (x1 < x0) = true := by simpa using hlo2
              clear hs
              go_wp2
              go_quiet (fail)
              obtain ⟨w4, hw4⟩ : ∃ w4, w4 = w3.drewN nq := ⟨_, rfl⟩
              have g4 : Grow w3 w4 := by rw [hw4]; exact below_drewN (Grow.refl w3) nq
              have HW4 := Lib.hid (HW3.out.grow g4)
              rw [← hw4]
              clear hw4 g4
              by_cases htl : p < tx.size
              · have j1 : (p : Int) < (tx.size : Int) := by omega
                have hs2 := HS2.out
                rw [show tailP tx p = [tx.extract p tx.size] from by unfold tailP; rw [if_pos htl]] at hs2
                have HS3 := Lib.hid (show RES = laysW 4096 st1 (tx.extract p tx.size) from hs2)
                have LA := Lib.hid (lays_any 0 r 4096 st1 v1 (tx.extract p tx.size) ((w4).alloc (.cells #[.string (tx.extract p tx.size)] 9)) (HW4.out.at_.grow ((Grow.refl _).alloc _)) (w4).heap.size 0 1 (by simp [go_sem]) (by have := HZ.out; omega) (by rw [ByteArray.size_extract]; omega) (by omega) (by omega))
                clear hs2 HS2 htl
                go_wp2_with fail
                refine LA.out.mono ?_
                rintro e w5 ⟨rfl, v5, wa5, fr5, nb5⟩
                have HW5 := Lib.hid (HW4.out.step ((Grow.refl _).alloc _) wa5 fr5 nb5)
                clear wa5 fr5 nb5 LA
                have c0 := cell_blk HW5.out.at_.blk 0
                have c2 := cell_blk HW5.out.at_.blk 2
                simp at c0 c2
                have hrz := HW5.out.at_.lt
                have FIN := Lib.hid (HW5.out.grows G2.out (by omega))
                rw [← HS3.out] at c2
                rcases SP.out with ⟨q1, q2⟩ | ⟨q1, q2⟩
                · rw [q2] at c2
                  have HQ := Lib.hid q1
                  clear q1 q2
                  go_wp2
                  go_ret2
                  exact ⟨by rw [HR.out, if_pos HQ.out]; rfl, FIN.out⟩
                · have CV := conv80s (s := S) (by have := HW5.out.at_.own; rw [← HS3.out, q2] at this; exact this)
                  rw [q2] at c2
                  have HQ := Lib.hid q1
                  clear q1 q2
                  go_wp2
                  go_ret2
                  exact ⟨by rw [HR.out, if_neg (Nat.not_lt.2 HQ.out)]; rfl, FIN.out⟩
              · have j1 : ¬ (p : Int) < (tx.size : Int) := by omega
                have hs2 := HS2.out
                rw [show tailP tx p = [] from by unfold tailP; rw [if_neg htl]] at hs2
                have HS3 := Lib.hid (show RES = st1 from hs2)
                clear hs2 HS2 htl
                have c0 := cell_blk HW4.out.at_.blk 0
                have c2 := cell_blk HW4.out.at_.blk 2
                simp at c0 c2
                have hrz := HW4.out.at_.lt
                have FIN := Lib.hid (HW4.out.grows G2.out (by omega))
                rw [← HS3.out] at c2
                rcases SP.out with ⟨q1, q2⟩ | ⟨q1, q2⟩
                · rw [q2] at c2
                  have HQ := Lib.hid q1
                  clear q1 q2
                  go_wp2
                  go_ret2
                  exact ⟨by rw [HR.out, if_pos HQ.out]; rfl, FIN.out⟩
                · have CV := conv80s (s := S) (by have := HW4.out.at_.own; rw [← HS3.out, q2] at this; exact this)
                  rw [q2] at c2
                  have HQ := Lib.hid q1
                  clear q1 q2
                  go_wp2
                  go_ret2
                  exact ⟨by rw [HR.out, if_neg (Nat.not_lt.2 HQ.out)]; rfl, FIN.out⟩
            · have e1 : decide (x1 < x0) = false := by simpa using hlo2
              rw [if_neg (by omega)] at hs
              obtain ⟨X0, rfl⟩ : ∃ X0 : Nat, x0 = X0 := ⟨x0.toNat, by omega⟩
              obtain ⟨X1, rfl⟩ : ∃ X1 : Nat, x1 = X1 := ⟨x1.toNat, by omega⟩
              rw [Int.toNat_natCast, Int.toNat_natCast] at hs
              have HS2 := Lib.hid hs
              clear hs
              have j1 : (p : Int) ≤ (X0 : Int) := by omega
              have j2 : (X0 : Int) ≤ (tx.size : Int) := by omega
              have j3 : (X1 : Int) ≤ (tx.size : Int) := by omega
              have j4 : (0 : Int) ≤ (X0 : Int) := by omega
              have j5 : (0 : Int) ≤ (X1 : Int) := by omega
              have j6 : (X0 : Int) ≤ (X1 : Int) := by omega
              have n0 : decide (X0 < p) = false := by simp; omega
              have n1 : decide (X1 < X0) = false := by simp; omega
              go_wp2
              go_quiet (fail)
              obtain ⟨w4, hw4⟩ : ∃ w4, w4 = w3.drewN nq := ⟨_, rfl⟩
              have g4 : Grow w3 w4 := by rw [hw4]; exact below_drewN (Grow.refl w3) nq
              have HW4 := Lib.hid (HW3.out.grow g4)
              have F4 := Lib.hid (F3.out.grow g4)
              obtain ⟨y0', y1'⟩ := CP.out w4 F4.out
              have LA := Lib.hid (lays_any 0 r 4096 st1 v1 (tx.extract p X0) (w4.alloc (.cells #[.string (tx.extract p X0)] 9)) (HW4.out.at_.grow ((Grow.refl w4).alloc _)) w4.heap.size 0 1 (by simp [go_sem]) (by have := HZ.out; omega) (by rw [ByteArray.size_extract]; omega) (by omega) (by omega))
              rw [← hw4]
              clear hw4 g4 y0 y1 e0 e1 hlo hlo2 n0 n1
              go_wp2_with fail
              refine LA.out.mono ?_
              rintro e w5 ⟨rfl, v5, wa5, fr5, nb5⟩
              have HW5 := Lib.hid (HW4.out.step ((Grow.refl _).alloc _) wa5 fr5 nb5)
              have F5 := Lib.hid (ints_fr (F4.out.grow ((Grow.refl w4).alloc _)) (HW4.out.at_.grow ((Grow.refl w4).alloc _)) fr5)
              have Z5 := Lib.hid (show (laysW 4096 st1 (tx.extract p X0)).b.size ≤ 4096 from laysW_most 4096 _ _ HZ.out)
              clear wa5 fr5 nb5 LA y0' y1'
              obtain ⟨st5, hst5⟩ : ∃ st5, st5 = laysW 4096 st1 (tx.extract p X0) := ⟨_, rfl⟩
              rw [← hst5] at Z5 HW5
              have HST5 := Lib.hid hst5
              clear hst5
              have EX := expands_any 0 r 4096 st5 v5 t tx ps (some ⟨gp, 0, none⟩) cp w5 HW5.out.at_ (fun w' f => by
                obtain ⟨a', c', e', rd⟩ := (ints_fr F5.out HW5.out.at_ f).rdN
                injection e' with e1 _ _
                rw [← e1] at rd
                exact rd) (by rw [← HM.out]; omega) (by have := Z5.out; omega) ht hx (by omega) (by omega)
              rw [← HM.out] at EX
              have EX := Lib.hid EX
              go_wp2_with fail
              refine EX.out.mono ?_
              rintro e w6 ⟨rfl, v6, ws6⟩
              have HW6 := Lib.hid (HW5.out.step (Grow.refl w5) ws6.at_ ws6.fr ws6.nb)
              have F6 := Lib.hid (ints_fr F5.out HW5.out.at_ ws6.fr)
              have Z6 := Lib.hid (show (laysA 4096 st5 (pcs t tx ps (t.size + 1) 0)).b.size ≤ 4096 from laysA_most 4096 _ _ Z5.out)
              clear ws6 EX
              obtain ⟨st6, hst6⟩ : ∃ st6, st6 = laysA 4096 st5 (pcs t tx ps (t.size + 1) 0) := ⟨_, rfl⟩
              rw [← hst6] at Z6 HW6
              have HST6 := Lib.hid hst6
              clear hst6
              obtain ⟨y0, y1⟩ := CP.out w6 F6.out
              have hs := HS2.out
              have hcons : ∀ B : List ByteArray, laysA 4096 st1 (tx.extract p X0 :: (pcs t tx ps (t.size + 1) 0 ++ B)) = laysA 4096 st6 B := fun B => by
                rw [HST6.out, HST5.out, ← laysA_append]
                rfl
              rw [hcons] at hs
              have HS3 := Lib.hid hs
              clear hs hcons HS2
              cases he : ((X0 : Int) == (X1 : Int)) with
              | true =>
                have HEQ := Lib.hid (show X0 = X1 from by simp at he; omega)
                by_cases hin : X1 < tx.size
                · have i1 : (X1 : Int) < (tx.size : Int) := by omega
                  have i2 : (X1 : Int) ≤ (X1 : Int) + 1 := by omega
                  have i3 : (X1 : Int) + 1 ≤ (tx.size : Int) := by omega
                  have i4 : ((X1 : Int) + 1).toNat = X1 + 1 := by omega
                  have hs := HS3.out
                  rw [if_pos (by rw [HEQ.out]), if_pos hin] at hs
                  have HS4 := Lib.hid (show RES = laysA 4096 (laysW 4096 st6 (tx.extract X1 (X1 + 1))) (allP gr L t tx k' (X1 + 1)) from hs)
                  clear hs HS3
                  go_wp2
                  go_quiet (fail)
                  obtain ⟨w7, hw7⟩ : ∃ w7, w7 = w6.drewN nq := ⟨_, rfl⟩
                  have g7 : Grow w6 w7 := by rw [hw7]; exact below_drewN (Grow.refl w6) nq
                  have HW7 := Lib.hid (HW6.out.grow g7)
                  have LA := Lib.hid (lays_any 0 r 4096 st6 v6 (tx.extract X1 (X1 + 1)) (w7.alloc (.cells #[.string (tx.extract X1 (X1 + 1))] 9)) (HW7.out.at_.grow ((Grow.refl w7).alloc _)) w7.heap.size 0 1 (by simp [go_sem]) (by have := Z6.out; omega) (by rw [ByteArray.size_extract]; omega) (by omega) (by omega))
                  rw [← hw7]
                  clear hw7 g7
                  go_wp2_with fail
                  refine LA.out.mono ?_
                  rintro e w8 ⟨rfl, v8, wa8, fr8, nb8⟩
                  have HW8 := Lib.hid (HW7.out.step ((Grow.refl _).alloc _) wa8 fr8 nb8)
                  clear wa8 fr8 nb8 LA
                  go_wp2
                  go_roundw
                  case rel => exact ⟨X1 + 1, k', _, v8, by omega, by go_num, Lib.hid ⟨HS4.out, by have := HK.out; have := HEQ.out; omega⟩, HW8, Lib.hid (laysW_most 4096 _ _ Z6.out)⟩
                  case measure => have := HEQ.out; simp [intOf]; omega
                · have i1 : ¬ (X1 : Int) < (tx.size : Int) := by omega
                  have hs := HS3.out
                  rw [if_pos (by rw [HEQ.out]), if_neg hin, List.nil_append] at hs
                  have HS4 := Lib.hid hs
                  clear hs HS3
                  go_wp2
                  go_quiet (fail)
                  have HW7 := Lib.hid (HW6.out.grow (below_drewN (Grow.refl w6) nq))
                  go_wp2
                  go_roundw
                  case rel => exact ⟨X1 + 1, k', st6, v6, by omega, by go_num, Lib.hid ⟨HS4.out, by have := HK.out; have := HEQ.out; omega⟩, HW7, Z6⟩
                  case measure => have := HEQ.out; simp [intOf]; omega
              | false =>
                have HEQ := Lib.hid (show ¬ X0 = X1 from by simp at he; omega)
                have hs := HS3.out
                rw [if_neg (by have := HEQ.out; omega)] at hs
                have HS4 := Lib.hid hs
                clear hs HS3
                go_wp2
                go_quiet (fail)
                have HW7 := Lib.hid (HW6.out.grow (below_drewN (Grow.refl w6) nq))
                go_wp2
                go_roundw
                case rel => exact ⟨X1, k', st6, v6, by omega, rfl, Lib.hid ⟨HS4.out, by have := HK.out; have := HEQ.out; omega⟩, HW7, Z6⟩
                case measure => have := HEQ.out; simp [intOf]; omega
      · have k1 : ¬ (p : Int) ≤ (tx.size : Int) := by omega
        have hs := HS.out.1
        have ha : allP gr L t tx k p = tailP tx p := by
          rcases hk with hk | ⟨hk, _⟩
          · rw [hk]
            unfold allP tailP
            rw [if_pos (by omega), if_neg (by omega)]
          · rw [hk]; rfl
        rw [ha] at hs
        have HS2 := Lib.hid hs
        have HW4 := HW
        clear hs ha hk HS
        have j1 : ¬ (p : Int) < (tx.size : Int) := by omega
        have hs2 := HS2.out
        rw [show tailP tx p = [] from by unfold tailP; rw [if_neg (by omega)]] at hs2
        have HS3 := Lib.hid (show RES = st1 from hs2)
        clear hs2 HS2

        have c0 := cell_blk HW4.out.at_.blk 0
        have c2 := cell_blk HW4.out.at_.blk 2
        simp at c0 c2
        have hrz := HW4.out.at_.lt
        have FIN := Lib.hid (HW4.out.grows G2.out (by omega))
        rw [← HS3.out] at c2
        rcases SP.out with ⟨q1, q2⟩ | ⟨q1, q2⟩
        · rw [q2] at c2
          have HQ := Lib.hid q1
          clear q1 q2
          go_wp2
          go_ret2
          exact ⟨by rw [HR.out, if_pos HQ.out]; rfl, FIN.out⟩
        · have CV := conv80s (s := S) (by have := HW4.out.at_.own; rw [← HS3.out, q2] at this; exact this)
          rw [q2] at c2
          have HQ := Lib.hid q1
          clear q1 q2
          go_wp2
          go_ret2
          exact ⟨by rw [HR.out, if_neg (Nat.not_lt.2 HQ.out)]; rfl, FIN.out⟩
  · rw [if_pos hE0] at hR
    have HR := Lib.hid hR
    have hE2 : (E != 0) = true := by simpa [bne] using hE0
    have hE3 : (E == 0) = false := by simpa using hE0
    clear hR hE0
    go_enter Try.func23, Try.ntmps23
    go_wp2_with fail
    refine (CK.out _).mono ?_
    rintro e w1 ⟨rfl, rfl⟩
    go_wp2
    go_ret2
    exact ⟨by rw [HR.out]; rfl, (Grow.refl w).alloc _⟩
end Go.Proofs.Ytldcbkememonaaa
