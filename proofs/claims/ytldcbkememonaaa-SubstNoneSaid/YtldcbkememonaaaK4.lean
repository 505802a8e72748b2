/-
  The walk of writer.expands.
-/
import Derived.Test.YtldcbkememonaaaK3

namespace Go.Proofs.Ytldcbkememonaaa
open Go.RowKit
set_option linter.unusedVariables false
set_option linter.unusedSimpArgs false

/-- many texts are laid -/
def laysA (most : Int) (st : WS) (l : List ByteArray) : WS := l.foldl (laysW most) st
theorem laysA_over (most : Int) (st : WS) (h : st.ov = true) : ∀ l, laysA most st l = st
  | [] => rfl
  | x :: l => by
    unfold laysA
    rw [List.foldl_cons]
    have e : laysW most st x = st := by
      unfold laysW
      rw [if_pos (.inl h), ← h]
    rw [e]
    exact laysA_over most st h l
theorem laysW_size (most : Int) (st : WS) (x : ByteArray) : (laysW most st x).b.size ≤ st.b.size + x.size := by
  unfold laysW
  split
  · simp
  · simp only; rw [ByteArray.size_append]; omega
/-- the writer behind some steps -/
structure WStp (B r : Nat) (most : Int) (v : Value) (w : World) (st1 : WS) (v1 : Value) (wr : World) : Prop where
  at_ : WAt B r most st1 v1 wr
  fr : Fr r v w wr
  nb : NewB v v1 w
theorem WStp.step {B r : Nat} {most : Int} {v v1 v2 : Value} {w wr W2 w3 : World} {st1 st2 : WS} (h : WStp B r most v w st1 v1 wr) (hg : Grow wr W2) (k : WAt B r most st2 v2 w3) (f : Fr r v1 W2 w3) (n : NewB v1 v2 W2) : WStp B r most v w st2 v2 w3 :=
  ⟨k, h.fr.trans ((Fr.of_below (v := v1) hg).trans f (NewB.self v1 wr)) h.nb, h.nb.trans n (Nat.le_trans h.fr.size hg.size)⟩
theorem WStp.grow {B r : Nat} {most : Int} {v v1 : Value} {w wr W2 : World} {st1 : WS} (h : WStp B r most v w st1 v1 wr) (hg : Grow wr W2) : WStp B r most v w st1 v1 W2 :=
  ⟨h.at_.grow hg, h.fr.trans (Fr.of_below (v := v1) hg) h.nb, h.nb⟩
theorem ext_one (t : ByteArray) (i : Nat) (h : i < t.size) : t.extract i (i + 1) = bs [by_ t i] := by
  refine eq_of_by _ _ ?_ (fun k hk => ?_)
  · rw [ext_len t i 1 (by omega), bs_size]; rfl
  · rw [ext_len t i 1 (by omega)] at hk
    obtain rfl : k = 0 := by omega
    rw [by_ext t i 1 0 (by omega) (by omega), by_bs [by_ t i] 0 (by_ t i) rfl (by_lt _ _), Nat.add_zero]
def ExpP (B r : Nat) (most : Int) (st' : WS) (v : Value) (w : World) (e : Ending) (w' : World) : Prop := e = .returned (.tuple #[]) ∧ ∃ v', WStp B r most v w st' v' w'
set_option maxRecDepth 100000 in
set_option maxHeartbeats 8000000 in
theorem expands_any (B r : Nat) (most : Int) (st : WS) (v : Value) (t tx : ByteArray) (ps : List Int) (a : Option Addr) (c : Nat) (w : World) (h : WAt B r most st v w) (hkp : ∀ w', Fr r v w w' → RdN ps a w') (hn : ps.length ≤ 100000) (hb : st.b.size ≤ 500000) (ht : t.size ≤ 60) (hx : tx.size ≤ 60) (hm : -1 ≤ most) (hm2 : most ≤ 1000000) :
    Calls Try.prog 36 #[.pointer (some ⟨r, 0, none⟩), .string t, .string tx, .slice a ps.length c] w (ExpP B r most (laysA most st (pcs t tx ps (t.size + 1) 0)) v w) := by
  obtain ⟨R, hR⟩ : ∃ R, R = laysA most st (pcs t tx ps (t.size + 1) 0) := ⟨_, rfl⟩
  rw [← hR]
  have HR := Lib.hid hR
  have DG := Lib.hid (fun c (hc : c < 256) w => dig38_any c hc w)
  have GR := fun k (hk : k ≤ 9223372036854775807) w' (g : RdN ps a w') => group19_any tx ps k a c w' g hn (by omega) hk
  obtain ⟨n, hN⟩ : ∃ n, n = ps.length := ⟨_, rfl⟩
  rw [← hN] at GR ⊢
  have GR := Lib.hid GR
  have HKP := Lib.hid hkp
  have H := Lib.hid h
  clear hR hn hN h hkp
  go_enter Try.func36, Try.ntmps36
  go_wp2
  go_loopw [8] (fun t8 wr => ∃ (i k : Nat) (st1 : WS) (v1 : Value), i ≤ t.size ∧ t8 = .int .i64 i ∧ Hid (R = laysA most st1 (pcs t tx ps k i) ∧ t.size + 1 ≤ k + i) ∧ Hid (WStp B r most v w st1 v1 wr) ∧ Hid (st1.b.size ≤ st.b.size + 60 * i)) (fun t8 _ => t.size - (intOf t8).toNat)
  case atStart => exact ⟨0, t.size + 1, st, v, by omega, rfl, Lib.hid ⟨HR.out, by omega⟩, Lib.hid ⟨H.out, Fr.refl _ _ _, NewB.self _ _⟩, Lib.hid (by omega)⟩
  case round =>
    obtain ⟨i, k, st1, v1, hi, rfl, HS, HW, HZ⟩ := hrel
    have k0 : (0 : Int) ≤ (i : Int) := by omega
    have k5 : (i : Int) ≤ 60 := by omega
    obtain ⟨k', hk⟩ : ∃ k', k = k' + 1 := ⟨k - 1, by have := HS.out.2; omega⟩
    subst hk
    have hs := HS.out.1
    have c2 := cell_blk HW.out.at_.blk 2
    simp at c2
    have hr := HW.out.at_.lt
    obtain ⟨ov, hov⟩ : ∃ ov, ov = st1.ov := ⟨_, rfl⟩
    rw [← hov] at c2
    have HOV := Lib.hid hov
    have HK := Lib.hid HS.out.2
    clear HS hov
    by_cases hlt : i < t.size
    · have k1 : (i : Int) < (t.size : Int) := by omega
      cases ov with
      | true =>
        rw [laysA_over most st1 HOV.out.symm] at hs
        have HS2 := Lib.hid hs
        clear hs
        go_wp2
        go_end0
        exact ⟨rfl, v1, by rw [HS2.out]; exact HW.out⟩
      | false =>
        unfold pcs at hs
        rw [if_pos hlt] at hs
        obtain ⟨c, hc⟩ : ∃ c, c = by_ t i := ⟨_, rfl⟩
        have ec : t[i].toNat = c := by rw [hc, by_at t i hlt]
        have hc6 : c < 256 := by rw [hc]; exact by_lt _ _
        rw [← hc] at hs
        have HC := Lib.hid hc
        clear hc
        have i0 : (0 : Int) ≤ (c : Int) := by omega
        have i1 : (c : Int) < 256 := by omega
        have e1 : ((i : Int) + 1).toNat = i + 1 := by omega
        have e2 : (i : Int) ≤ (i : Int) + 1 := by omega
        have e3 : (i : Int) + 1 ≤ (t.size : Int) := by omega
        cases h92 : ((c : Int) == 92) with
        | false =>
          have h92' : ((c : Int) != 92) = true := by simpa [bne] using h92
          rw [if_neg (by simp at h92; omega)] at hs
          have HP := Lib.hid (show t.extract i (i + 1) = bs [c] from by rw [HC.out]; exact ext_one t i hlt)
          clear h92
          have HS2 := Lib.hid hs
          clear hs
          have LA := Lib.hid (lays_any B r most st1 v1 (t.extract i (i + 1)) (wr.alloc (.cells #[.string (t.extract i (i + 1))] 9)) (HW.out.at_.grow ((Grow.refl wr).alloc _)) wr.heap.size 0 1 (by simp [go_sem]) (by have := HZ.out; omega) (Nat.le_trans (show ((t.extract i (i + 1))).size ≤ 60 from (by rw [HP.out, bs_size]; simp)) (by omega)) hm hm2)
          go_wp2_with fail
          refine LA.out.mono ?_
          rintro e w5 ⟨rfl, v5, wa5, fr5, nb5⟩
          have HW5 := Lib.hid (HW.out.step ((Grow.refl wr).alloc _) wa5 fr5 nb5)
          clear wa5 fr5 nb5 LA
          go_wp2
          go_roundw
          case rel => exact ⟨i + 1, k', laysW most st1 (t.extract i (i + 1)), v5, by omega, by go_num, Lib.hid ⟨(by rw [HP.out]; exact HS2.out), by have := HK.out; omega⟩, HW5, Lib.hid (Nat.le_trans (laysW_size most st1 (t.extract i (i + 1))) (Nat.le_trans (Nat.add_le_add HZ.out (show ((t.extract i (i + 1))).size ≤ 60 from (by rw [HP.out, bs_size]; simp))) (by omega)))⟩
          case measure => simp [intOf]; omega
        | true =>
          have h92' : ((c : Int) != 92) = false := by simpa [bne] using h92
          have H92 := Lib.hid (show c = 92 from by simp at h92; omega)
          clear h92
          by_cases hend : i + 1 = t.size
          · have k2 : ((i : Int) + 1 == (t.size : Int)) = true := by simp; omega
            rw [if_neg (fun e => by have := e.2; omega)] at hs
            have HP := Lib.hid (show t.extract i (i + 1) = bs [c] from by rw [HC.out]; exact ext_one t i hlt)
            clear hend
            have HS2 := Lib.hid hs
            clear hs
            have LA := Lib.hid (lays_any B r most st1 v1 (t.extract i (i + 1)) (wr.alloc (.cells #[.string (t.extract i (i + 1))] 9)) (HW.out.at_.grow ((Grow.refl wr).alloc _)) wr.heap.size 0 1 (by simp [go_sem]) (by have := HZ.out; omega) (Nat.le_trans (show ((t.extract i (i + 1))).size ≤ 60 from (by rw [HP.out, bs_size]; simp)) (by omega)) hm hm2)
            go_wp2_with fail
            refine LA.out.mono ?_
            rintro e w5 ⟨rfl, v5, wa5, fr5, nb5⟩
            have HW5 := Lib.hid (HW.out.step ((Grow.refl wr).alloc _) wa5 fr5 nb5)
            clear wa5 fr5 nb5 LA
            go_wp2
            go_roundw
            case rel => exact ⟨i + 1, k', laysW most st1 (t.extract i (i + 1)), v5, by omega, by go_num, Lib.hid ⟨(by rw [HP.out]; exact HS2.out), by have := HK.out; omega⟩, HW5, Lib.hid (Nat.le_trans (laysW_size most st1 (t.extract i (i + 1))) (Nat.le_trans (Nat.add_le_add HZ.out (show ((t.extract i (i + 1))).size ≤ 60 from (by rw [HP.out, bs_size]; simp))) (by omega)))⟩
            case measure => simp [intOf]; omega
          · have k2 : ((i : Int) + 1 == (t.size : Int)) = false := by simp; omega
            have hend2 : i + 1 < t.size := by omega
            have k3 : (i : Int) + 1 < (t.size : Int) := by omega
            rw [if_pos ⟨H92.out, hend2⟩] at hs
            obtain ⟨d, hd⟩ : ∃ d, d = by_ t (i + 1) := ⟨_, rfl⟩
            have ed : t[i + 1].toNat = d := by rw [hd, by_at t (i + 1) hend2]
            have hd6 : d < 256 := by rw [hd]; exact by_lt _ _
            rw [← hd] at hs
            have HD := Lib.hid hd
            have DD := Lib.hid (fun w => DG.out d hd6 w)
            clear hd hend
            cases hd92 : ((d : Int) == 92) with
            | true =>
              rw [if_pos (by simp at hd92; omega)] at hs
              have HS2 := Lib.hid hs
              clear hs
              have LA := Lib.hid (lays_any B r most st1 v1 b92 (wr.alloc (.cells #[.string b92] 9)) (HW.out.at_.grow ((Grow.refl wr).alloc _)) wr.heap.size 0 1 (by simp [go_sem]) (by have := HZ.out; omega) (Nat.le_trans (show (b92).size ≤ 60 from (by decide)) (by omega)) hm hm2)
              go_wp2_with fail
              refine LA.out.mono ?_
              rintro e w5 ⟨rfl, v5, wa5, fr5, nb5⟩
              have HW5 := Lib.hid (HW.out.step ((Grow.refl wr).alloc _) wa5 fr5 nb5)
              clear wa5 fr5 nb5 LA
              go_wp2
              go_roundw
              case rel => exact ⟨i + 2, k', laysW most st1 b92, v5, by omega, by go_num, Lib.hid ⟨(by exact HS2.out), by have := HK.out; omega⟩, HW5, Lib.hid (Nat.le_trans (laysW_size most st1 b92) (Nat.le_trans (Nat.add_le_add HZ.out (show (b92).size ≤ 60 from (by decide))) (by omega)))⟩
              case measure => simp [intOf]; omega
            | false =>
              rw [if_neg (by simp at hd92; omega)] at hs
              cases hdg : digB d with
              | true =>
                have hdb : 48 ≤ d ∧ d ≤ 57 := by unfold digB at hdg; simp at hdg; exact hdg
                rw [if_pos hdg] at hs
                rw [hdg] at DD
                have j0 : (48 : Int) ≤ (d : Int) := by omega
                have j1 : (d : Int) ≤ 57 := by omega
                have GG := Lib.hid (GR.out ((d : Int) - 48) (by omega))
                obtain ⟨gp, hgp⟩ : ∃ gp, gp = grpF tx ps ((d : Int) - 48) := ⟨_, rfl⟩
                have hgz : gp.size ≤ 60 := by rw [hgp]; have := grpF_size tx ps ((d : Int) - 48); omega
                rw [← hgp] at GG hs
                have HS2 := Lib.hid hs
                have RD := Lib.hid (HKP.out wr HW.out.fr)
                clear hs hdg hgp
                go_wp2_with fail
                refine (DD.out _).mono ?_
                rintro e w1 ⟨rfl, rfl⟩
                go_wp2_with fail
                refine (GG.out _ RD.out).mono ?_
                rintro e w2 ⟨rfl, g2⟩
                have HW2 := Lib.hid (HW.out.grow g2)
                have G2 := Lib.hid g2
                clear g2 c2
                have LA := Lib.hid (lays_any B r most st1 v1 gp (w2.alloc (.cells #[.string gp] 9)) (HW2.out.at_.grow ((Grow.refl w2).alloc _)) w2.heap.size 0 1 (by simp [go_sem]) (by have := HZ.out; omega) (Nat.le_trans (show (gp).size ≤ 60 from (by omega)) (by omega)) hm hm2)
                go_wp2_with fail
                refine LA.out.mono ?_
                rintro e w5 ⟨rfl, v5, wa5, fr5, nb5⟩
                have HW5 := Lib.hid (HW2.out.step ((Grow.refl w2).alloc _) wa5 fr5 nb5)
                clear wa5 fr5 nb5 LA
                go_wp2
                go_roundw
                case rel => exact ⟨i + 2, k', laysW most st1 gp, v5, by omega, by go_num, Lib.hid ⟨(by exact HS2.out), by have := HK.out; omega⟩, HW5, Lib.hid (Nat.le_trans (laysW_size most st1 gp) (Nat.le_trans (Nat.add_le_add HZ.out (show (gp).size ≤ 60 from (by omega))) (by omega)))⟩
                case measure => simp [intOf]; omega
              | false =>
                rw [if_neg (by rw [hdg]; decide)] at hs
                rw [hdg] at DD
                have HS2 := Lib.hid hs
                clear hs hdg
                go_wp2_with fail
                refine (DD.out _).mono ?_
                rintro e w1 ⟨rfl, rfl⟩
                have LA := Lib.hid (lays_any B r most st1 v1 b92 (wr.alloc (.cells #[.string b92] 9)) (HW.out.at_.grow ((Grow.refl wr).alloc _)) wr.heap.size 0 1 (by simp [go_sem]) (by have := HZ.out; omega) (Nat.le_trans (show (b92).size ≤ 60 from (by decide)) (by omega)) hm hm2)
                go_wp2_with fail
                refine LA.out.mono ?_
                rintro e w5 ⟨rfl, v5, wa5, fr5, nb5⟩
                have HW5 := Lib.hid (HW.out.step ((Grow.refl wr).alloc _) wa5 fr5 nb5)
                clear wa5 fr5 nb5 LA
                go_wp2
                go_roundw
                case rel => exact ⟨i + 1, k', laysW most st1 b92, v5, by omega, by go_num, Lib.hid ⟨(by exact HS2.out), by have := HK.out; omega⟩, HW5, Lib.hid (Nat.le_trans (laysW_size most st1 b92) (Nat.le_trans (Nat.add_le_add HZ.out (show (b92).size ≤ 60 from (by decide))) (by omega)))⟩
                case measure => simp [intOf]; omega
    · unfold pcs at hs
      rw [if_neg hlt] at hs
      have k1 : ¬ (i : Int) < (t.size : Int) := by omega
      have HS2 := Lib.hid hs
      clear hs
      go_wp2
      go_end0
      exact ⟨rfl, v1, by rw [HS2.out]; exact HW.out⟩
end Go.Proofs.Ytldcbkememonaaa
