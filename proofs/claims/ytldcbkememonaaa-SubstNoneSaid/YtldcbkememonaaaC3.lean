/-
  The walk of row.
-/
import Derived.Test.YtldcbkememonaaaC2

namespace Go.Proofs.Ytldcbkememonaaa
open Go.RowKit
set_option linter.unusedVariables false
set_option linter.unusedSimpArgs false

theorem rowF_stop (s : ByteArray) (wf : RS → RS) (k : Nat) (st : RS) (h : rowGo s st = false) : rowF s wf k st = st := by
  cases k with
  | zero => rfl
  | succ k => unfold rowF; rw [if_neg (by rw [h]; decide)]
/-- 'piece' at every state behind one place -/
def PieceOk (B r : Nat) (s : ByteArray) (wf : RS → RS) (p : Nat) : Prop := ∀ (st : RS) (v : Value) (w : World), RA B r s st v w → Good s st → st.err = 0 → st.at_ < s.size → st.deep ≤ 64 → p ≤ st.at_ →
  Calls Try.prog 52 #[.pointer (some ⟨r, 0, none⟩)] w (RPost B r s (pieceF s wf st) v w)
def iv (o : Option Value) : Int := match o with | some (.int _ x) => x | _ => 0
/-- how much is left -/
def left (s : ByteArray) (r : Nat) (w : World) : Nat := bif iv (w.cell? ⟨r, 3, none⟩) == 0 then s.size + 1 - (iv (w.cell? ⟨r, 1, none⟩)).toNat else 0
theorem left_of {B r : Nat} {s : ByteArray} {st : RS} {v : Value} {w : World} (h : RA B r s st v w) : left s r w = bif st.err == 0 then s.size + 1 - st.at_ else 0 := by
  unfold left
  rw [h.c3, h.c1]
  simp [iv]
set_option maxRecDepth 100000 in
set_option maxHeartbeats 4000000 in
theorem row_walk (B r : Nat) (s : ByteArray) (wf : RS → RS) (st : RS) (v : Value) (w : World) (h : RA B r s st v w) (g : Good s st) (hd : st.deep ≤ 64) (hs : s.size ≤ 10000)
    (hw : ∀ p, st.at_ ≤ p → p < s.size → WfOk s wf p) (PO : PieceOk B r s wf st.at_) :
    Calls Try.prog 48 #[.pointer (some ⟨r, 0, none⟩)] w (RPost B r s (rowF s wf (s.size + 1) st) v w) := by
  obtain ⟨S, hS⟩ : ∃ S, S = rowF s wf (s.size + 1) st := ⟨_, rfl⟩
  rw [← hS]
  have HS := Lib.hid hS
  have H := Lib.hid h
  have GG := Lib.hid g
  have HW := Lib.hid hw
  have PP := Lib.hid PO
  clear hS h g hw PO
  go_enter Try.func48, Try.ntmps48
  go_wp2
  go_loopw [2] (fun _ wr => ∃ (k : Nat) (X : RS) (vx : Value), Hid (Stp B r s v w X vx wr) ∧ Hid (S = rowF s wf k X) ∧ Hid (Adv s st X) ∧ Hid (X.err = 0 → s.size - X.at_ < k ∧ X.deep ≤ 64)) (fun _ wr => left s r wr)
  case atStart => exact ⟨s.size + 1, st, v, Lib.hid (Stp.refl H.out), HS, Lib.hid (Adv.refl GG.out), Lib.hid (fun _ => ⟨by omega, hd⟩)⟩
  case round =>
    obtain ⟨k, X, vx, ST, HR, AD, HK⟩ := hrel
    have d0 := ST.out.ra.c0
    have d1 := ST.out.ra.c1
    have d3 := ST.out.ra.c3
    have hat : X.at_ ≤ s.size := AD.out.size
    obtain ⟨p, hpp⟩ : ∃ p, p = X.at_ := ⟨_, rfl⟩
    obtain ⟨E, hE⟩ : ∃ E, E = X.err := ⟨_, rfl⟩
    rw [← hpp] at d1 hat
    rw [← hE] at d3
    have HP := Lib.hid hpp
    have HE := Lib.hid hE
    have k0 : (0 : Int) ≤ (p : Int) := by omega
    have k2 : (p : Int) ≤ 10000 := by omega
    clear hpp hE
    cases tE : (E == 0) with
    | false =>
      have hS : S = X := by
        rw [HR.out]
        refine rowF_stop s wf k X ?_
        unfold rowGo
        rw [← HE.out]
        simp at tE
        simp [tE]
      subst hS
      go_wp2
      go_quiet (fail)
      have S2 := Lib.hid (ST.out.drews nq)
      go_wp2
      go_end0
      exact ⟨rfl, vx, S2.out⟩
    | true =>
      have hE0 : E = 0 := by simpa using tE
      subst hE0
      cases tp : decide (p < s.size) with
      | false =>
        have k1 : ¬ (p : Int) < (s.size : Int) := by simp at tp; omega
        have hS : S = X := by
          rw [HR.out]
          refine rowF_stop s wf k X ?_
          unfold rowGo
          rw [← HP.out, tp]
          simp
        subst hS
        go_wp2
        go_quiet (fail)
        have S2 := Lib.hid (ST.out.drews nq)
        go_wp2
        go_end0
        exact ⟨rfl, vx, S2.out⟩
      | true =>
        have hlt : p < s.size := by simpa using tp
        have k1 : (p : Int) < (s.size : Int) := by omega
        obtain ⟨c, hcc⟩ : ∃ c, c = by_ s p := ⟨_, rfl⟩
        have hcs : s[p].toNat = c := by rw [hcc, by_at s p hlt]
        have HC := Lib.hid hcc
        clear hcc
        cases t1 : ((c : Int) == 124) with
        | true =>
          have n1 : ((c : Int) != 124) = false := by rw [bne, t1]; rfl
          have hS : S = X := by
            rw [HR.out]
            refine rowF_stop s wf k X ?_
            unfold rowGo
            rw [← HP.out, ← HC.out]
            have : c = 124 := by simp at t1; omega
            simp [this]
          subst hS
          go_wp2
          go_quiet (fail)
          have S2 := Lib.hid (ST.out.drews nq)
          go_wp2
          go_end0
          exact ⟨rfl, vx, S2.out⟩
        | false =>
          have n1 : ((c : Int) != 124) = true := by rw [bne, t1]; rfl
          cases t2 : ((c : Int) == 41) with
          | true =>
            have n2 : ((c : Int) != 41) = false := by rw [bne, t2]; rfl
            have hS : S = X := by
              rw [HR.out]
              refine rowF_stop s wf k X ?_
              unfold rowGo
              rw [← HP.out, ← HC.out]
              have : c = 41 := by simp at t2; omega
              simp [this]
            subst hS
            go_wp2
            go_quiet (fail)
            have S2 := Lib.hid (ST.out.drews nq)
            go_wp2
            go_end0
            exact ⟨rfl, vx, S2.out⟩
          | false =>
            have n2 : ((c : Int) != 41) = true := by rw [bne, t2]; rfl
            have hgo : rowGo s X = true := by
              unfold rowGo
              rw [← HP.out, ← HC.out, ← HE.out]
              have h1 : c ≠ 124 := by simp at t1; omega
              have h2 : c ≠ 41 := by simp at t2; omega
              simp [h1, h2, hlt]
            have hK := HK.out HE.out.symm
            have hltX : X.at_ < s.size := by rw [← HP.out]; exact hlt
            have PC := Lib.hid (fun n => PP.out X vx (wr.drewN n) (ST.out.drews n).ra (AD.out.good GG.out) HE.out.symm hltX hK.2 AD.out.at_)
            have PA := Lib.hid (pieceF_adv s wf X (AD.out.good GG.out) HE.out.symm hltX hK.2 (HW.out X.at_ AD.out.at_ hltX))
            have HGO := Lib.hid hgo
            have HKK := Lib.hid hK
            have HLT := Lib.hid hltX
            clear hgo hK hltX
            go_wp2
            go_quiet (fail)
            have S2 := Lib.hid (ST.out.drews nq)
            have LW := Lib.hid (left_of ST.out.ra)
            go_wp2_with fail
            refine (PC.out _).mono ?_
            rintro e w5 ⟨rfl, v5, s5⟩
            have S5 := Lib.hid (S2.out.trans s5)
            clear s5
            go_wp2
            go_roundw
            case rel =>
              refine ⟨k - 1, pieceF s wf X, v5, Lib.hid S5.out, Lib.hid ?_, Lib.hid ?_, Lib.hid (fun he => ?_)⟩
              · rw [HR.out]
                obtain ⟨k', rfl⟩ : ∃ k', k = k' + 1 := ⟨k - 1, by have := HKK.out.1; omega⟩
                rw [rowF, if_pos HGO.out]
                rfl
              · exact AD.out.trans PA.out.1 (fun _ => HE.out.symm)
              · have h1 := PA.out.2 he
                have h2 := HKK.out
                have h3 := HLT.out
                refine ⟨by omega, ?_⟩
                rw [PA.out.1.same he]
                exact h2.2
            case measure =>
              rw [LW.out, left_of S5.out.ra, ← HE.out]
              have h3 := HLT.out
              cases he : ((pieceF s wf X).err == 0) with
              | true =>
                have h1 := PA.out.2 (by simpa using he)
                simp
                omega
              | false => simp; omega
end Go.Proofs.Ytldcbkememonaaa
