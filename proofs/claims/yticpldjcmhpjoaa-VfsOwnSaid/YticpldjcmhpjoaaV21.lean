/-
  The walk of WriteAt.
-/
import Derived.Test.YticpldjcmhpjoaaV20
namespace Go.Proofs.Yticpldjcmhpjoaa
open Go.RowKit
set_option linter.unusedVariables false
set_option linter.unusedSimpArgs false

def writeD (D : Doc) (s : ByteArray) (at_ : Int) (data : List UInt8) : Int × Doc :=
  if (findD D s).2 = 0 then (if 0 ≤ at_ ∧ at_ + (data.length : Int) ≤ ((findD D s).1.length : Int) then (0, D.did ⟨1, s, at_.toNat, data⟩) else (1, D)) else ((findD D s).2, D)
set_option maxHeartbeats 2000000 in
theorem write_any {P : Nat → Prop} (fb K : Nat) (D : Doc) (s : ByteArray) (at_ : Int) (pv : Value) (ls : List (List UInt8)) (w : World) (hS : FsAt P w fb D.fs K) (hG : Good D) (hK : K ≤ 1000000) (hp : PartsIn w pv ls) (hn : ls.length ≤ 1000000) (hl9 : ls.flatten.length ≤ 1073741824) :
    Calls Try.prog 11 #[.pointer (some ⟨fb, 0, none⟩), .string s, .int .i64 at_, pv] w (FsP P fb K (.int .i64 (writeD D s at_ ls.flatten).1) (writeD D s at_ ls.flatten).2 w) := by
  have FN := find2_any fb K D s w hS
  have HS := Lib.hid hS
  have hp' := hp
  obtain ⟨pa, pc, hpv, hpx⟩ := hp'
  clear hpx
  unfold writeD
  rcases findD_cases D s with h | h | ⟨l, h, hb, hl⟩
  · rw [h] at FN ⊢
    have FN := Lib.hid FN
    subst hpv
    clear hS h hG hp
    go_enter Try.func11, Try.ntmps11
    go_wp2_with fail
    refine FN.out.mono ?_
    rintro _ w2 ⟨a, c, rfl, hb, g2⟩
    have G2 := Lib.hid g2
    clear g2 hb
    go_wp2
    go_ret
    exact FsP.only HS.out G2.out
  · rw [h] at FN ⊢
    have FN := Lib.hid FN
    subst hpv
    clear hS h hG hp
    go_enter Try.func11, Try.ntmps11
    go_wp2_with fail
    refine FN.out.mono ?_
    rintro _ w2 ⟨a, c, rfl, hb, g2⟩
    have G2 := Lib.hid g2
    clear g2 hb
    go_wp2
    go_ret
    exact FsP.only HS.out G2.out
  · have hsm := (hG.runs.last.small hG.room) _ _ hl
    rw [h] at FN ⊢
    rw [if_pos rfl]
    obtain ⟨k, hk⟩ : ∃ k, k = l.length := ⟨_, rfl⟩
    obtain ⟨data, hdata⟩ : ∃ data, data = ls.flatten := ⟨_, rfl⟩
    obtain ⟨dl, hdl⟩ : ∃ dl, dl = data.length := ⟨_, rfl⟩
    have TT := Lib.hid (show ∀ W, Grow w W → Calls Try.prog 30 #[.int .i64 1073741824, pv] W (fun e w' => e = .returned (.int .i64 (dl : Int)) ∧ Grow W w') from fun W hW => by
      have := totalp_any pv ls W (hp.grow hW) hn hl9
      rw [← hdata, ← hdl] at this
      exact this)
    have JJ := Lib.hid (show ∀ W, Grow w W → Calls Try.prog 32 #[pv, .slice none 0 0] W fun e w' => ∃ v', e = .returned v' ∧ Hid (BytesIn (fun k => W.heap.size ≤ k) w' v' data) ∧ Grow W w' from fun W hW => by
      refine (join_any pv ls W (hp.grow hW) hn (by omega)).mono ?_
      rintro e w' ⟨v', rfl, h1, h2⟩
      rw [← hdata] at h1
      exact ⟨v', rfl, Lib.hid h1, h2⟩)
    simp only at FN ⊢
    rw [← hdata] at hl9 ⊢
    rw [← hdl] at hl9 ⊢
    have HKL := Lib.hid hk
    rw [← hk] at FN hsm ⊢
    have FN := Lib.hid FN
    have HC := Lib.hid (fun (i : Nat) (hi : i + dl ≤ k) => (show OkC D.now ⟨1, s, i, data⟩ from ⟨hb, by rw [← hdl]; exact hl9, .inr (.inl ⟨rfl, l, hl, by rw [← hdl, ← hk]; exact hi⟩)⟩))
    have hs : s.size ≤ maxLen := by
      unfold isB at hb
      simp at hb
      unfold maxLen
      omega
    have HSZ := Lib.hid hs
    have HSM := Lib.hid (hG.runs.last.small hG.room)
    subst hpv
    clear hS h hG hb hl hk hp hdata hdl hs
    by_cases c1 : at_ < 0
    · rw [if_neg (by omega)]
      go_enter Try.func11, Try.ntmps11
      go_wp2_with fail
      refine FN.out.mono ?_
      rintro _ w2 ⟨a, c, rfl, hb, g2⟩
      have G2 := Lib.hid g2
      clear g2 hb
      go_wp2
      go_ret
      exact FsP.only HS.out G2.out
    · obtain ⟨i, rfl⟩ := Int.eq_ofNat_of_zero_le (show 0 ≤ at_ by omega)
      by_cases c3 : (k : Int) < (i : Int)
      · rw [if_neg (by omega)]
        go_enter Try.func11, Try.ntmps11
        go_wp2_with fail
        refine FN.out.mono ?_
        rintro _ w2 ⟨a, c, rfl, hb, g2⟩
        have G2 := Lib.hid g2
        clear g2 hb
        go_wp2
        go_ret
        exact FsP.only HS.out G2.out
      · have hwr : IntKind.i64.wrap ((k : Int) - (i : Int)) = (k : Int) - (i : Int) := IntWalk.i64_in _ (by omega)
        by_cases c4 : (k : Int) - (i : Int) < (dl : Int)
        · rw [if_neg (by omega)]
          go_enter Try.func11, Try.ntmps11
          go_wp2_with fail
          refine FN.out.mono ?_
          rintro _ w2 ⟨a, c, rfl, hb, g2⟩
          have G2 := Lib.hid g2
          clear g2 hb
          go_wp2_with fail
          refine (TT.out _ G2.out).mono ?_
          rintro _ w3 ⟨rfl, g3⟩
          have G3 := Lib.hid (G2.out.trans2 g3)
          clear g3
          go_wp2
          go_ret
          exact FsP.only HS.out G3.out
        · rw [if_pos (by omega)]
          have HC := Lib.hid (HC.out i (by omega))
          have e9 : ((i : Nat) : Int).toNat = i := by simp
          rw [e9]
          clear e9
          go_enter Try.func11, Try.ntmps11
          go_wp2_with fail
          refine FN.out.mono ?_
          rintro _ w2 ⟨a, c, rfl, hb, g2⟩
          have G2 := Lib.hid g2
          clear g2 hb
          go_wp2_with fail
          refine (TT.out _ G2.out).mono ?_
          rintro _ w3 ⟨rfl, g3⟩
          have G3 := Lib.hid (G2.out.trans2 g3)
          clear g3
          go_wp2_with fail
          refine (JJ.out _ G3.out).mono ?_
          rintro e w7 ⟨v7, rfl, b7, g7⟩
          obtain ⟨a7, c7, hv7⟩ := b7.out.shape
          subst hv7
          have g67 : Grow w w7 := G3.out.trans2 g7
          have hz6 : w.heap.size ≤ w3.heap.size := Grow.size G3.out
          have hF7 : FsAt (More P w w7) w7 fb D.fs K := (HS.out.turn (Turn.of_grow (P := fun _ => False) g67) (fun _ _ h => h)).mono (fun k _ h => .inl h)
          have DA := Lib.hid (does_any (P := More P w w7) fb K D.fs ⟨1, s, i, data⟩ _ w7 HC.out.valid hF7 hK HSZ.out (b7.out.mono (fun k hk h => .inr ⟨by omega, hk⟩)) HC.out.data HSM.out)
          have G67 := Lib.hid g67
          unfold Chg.val at DA
          clear g67 g7 hF7 hz6
          go_wp2_with fail
          refine DA.out.mono ?_
          rintro e w8 ⟨rfl, hF8, t8⟩
          rw [← fs_did HC.out] at hF8
          have FIN := Lib.hid (FsAt.after G67.out hF8 t8)
          clear hF8 t8
          go_wp2
          go_ret
          exact ⟨rfl, FIN.out.1, FIN.out.2⟩
end Go.Proofs.Yticpldjcmhpjoaa
