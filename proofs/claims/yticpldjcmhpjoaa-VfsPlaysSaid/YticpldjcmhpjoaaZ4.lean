/-
  The walk of VfsPlays.
-/
import Derived.Test.YticpldjcmhpjoaaZ3
import Derived.Test.YticpldjcmhpjoaaY7

namespace Go.Proofs.Yticpldjcmhpjoaa
open Go.RowKit
set_option linter.unusedVariables false
set_option linter.unusedSimpArgs false

set_option maxRecDepth 20000 in
set_option maxHeartbeats 4000000 in
theorem plays_any (room : Int) (hr : -9223372036854775808 ≤ room ∧ room ≤ 9223372036854775807) (a : Option Addr) (n c : Nat) (A : Nat → Actn) (V : Nat → Value) (w : World) (h : ActsAt w a n A V) (hn : n ≤ maxLen) :
    Calls Try.prog 5 #[.int .i64 room, .slice a n c] w (OnlyP (.bool true) w) := by
  have HV := Lib.hid (heavy_any a n c A V w h hn)
  have HA := Lib.hid h
  have KN := Lib.hid known_any
  unfold maxLen at hn
  clear h
  go_enter Try.func5, Try.ntmps5
  go_wp2_with fail
  refine HV.out.mono ?_
  rintro _ w1 ⟨r, rfl, hL, g1⟩
  have HL := Lib.hid hL
  have G1 := Lib.hid g1
  clear hL g1
  cases r with
  | true =>
    go_wp2
    go_ret
    exact ⟨rfl, G1.out⟩
  | false =>
    have HL2 := Lib.hid (HL.out rfl)
    clear HL
    by_cases hbad : room < 0 ∨ 1073741824 < room
    · have NF := Lib.hid (new_bad room hbad)
      have NX := Lib.hid (xnew_bad room hbad)
      clear hbad
      go_wp2_with fail
      refine (NF.out _).mono ?_
      rintro _ w2 ⟨rfl, g2⟩
      have G2 := Lib.hid (G1.out.trans2 g2)
      clear g2
      go_wp2_with fail
      refine (NX.out _).mono ?_
      rintro _ w3 ⟨rfl, g3⟩
      have G3 := Lib.hid (G2.out.trans2 g3)
      clear g3
      go_wp2
      go_loopw [9] (fun i wr => i = .int .i64 0 ∧ Hid (Grow w wr)) (fun _ _ => 0)
      case atStart => exact ⟨rfl, G3⟩
      case round =>
        obtain ⟨rfl, HG⟩ := hrel
        by_cases hlt : 0 < n
        · have k1 : (0 : Int) < (n : Int) := by omega
          go_wp2_with fail
          refine (KN.out _).mono ?_
          rintro _ w9 ⟨rfl, g9⟩
          have G9 := Lib.hid (HG.out.trans2 g9)
          clear g9
          go_wp2
          go_ret
          exact ⟨rfl, G9.out⟩
        · have k1 : ¬ (0 : Int) < (n : Int) := by omega
          go_wp2_with fail
          refine (KN.out _).mono ?_
          rintro _ w9 ⟨rfl, g9⟩
          have G9 := Lib.hid (HG.out.trans2 g9)
          clear g9
          go_wp2
          go_ret
          exact ⟨rfl, G9.out⟩
    · obtain ⟨rm, rfl⟩ := Int.eq_ofNat_of_zero_le (show 0 ≤ room by omega)
      have NF := Lib.hid (new2_any rm (by omega) w1)
      have NX := Lib.hid (fun W => xnew_any rm (by omega) W)
      have HRM := Lib.hid (show rm ≤ 1073741824 from by omega)
      clear hbad
      go_wp2_with fail
      refine NF.out.mono ?_
      rintro _ w2 ⟨rfl, hf2, g2⟩
      have G2 := Lib.hid g2
      have HF2 := Lib.hid hf2
      obtain ⟨fb, hfb⟩ : ∃ fb, fb = w1.heap.size + 3 := ⟨_, rfl⟩
      rw [← hfb] at HF2 ⊢
      clear g2 hf2 hfb
      go_wp2_with fail
      refine (NX.out _).mono ?_
      rintro _ w3 ⟨rfl, hx3, g3⟩
      have J0 := Lib.hid (JS.start HRM.out G1.out HF2.out G2.out hx3 g3)
      obtain ⟨xb, hxb⟩ : ∃ xb, xb = w2.heap.size := ⟨_, rfl⟩
      rw [← hxb] at J0 ⊢
      clear hx3 g3 hxb
      have JJ := Lib.hid (show ∃ D, JS w w NoK w3 fb xb (2 * 0) 0 D D from ⟨_, J0.out⟩)
      go_wp2
      go_loopw [9] (fun i wr => ∃ j : Nat, j ≤ n ∧ j ≤ 100 ∧ i = .int .i64 (j : Int) ∧ Hid (∃ D, JS w w NoK wr fb xb (2 * j) j D D)) (fun i _ => n - (intOf i).toNat)
      case atStart => exact ⟨0, by omega, by omega, rfl, JJ⟩
      case round =>
        obtain ⟨j, hj, hj1, rfl, HJ⟩ := hrel
        by_cases hlt : j < n
        · have k1 : (j : Int) < (n : Int) := by omega
          by_cases hlt2 : j < 100
          · have k2 : (j : Int) < 100 := by omega
            obtain ⟨D, hJ⟩ := HJ.out
            obtain ⟨b, o, ha, hA⟩ := HA.out (by omega)
            subst ha
            have hC := hA j hlt
            have hOK := hC.ok (HL2.out j hlt hlt2)
            obtain ⟨d0, d1, d2, d3, d4⟩ := hC.grown hJ.gr
            have AC := Lib.hid (act_any hJ (by omega) (by omega) (A j) (V j) hOK)
            obtain ⟨q, bl, cq, hv⟩ : ∃ q bl cq, V j = .slice q bl cq := by obtain ⟨x, c, e, _⟩ := hC.parts; exact ⟨_, _, _, e⟩
            rw [hv] at d4 AC
            obtain ⟨D2, hD2⟩ : ∃ D2, D2 = stepD D (A j) := ⟨_, rfl⟩
            unfold ActP at AC
            rw [← hD2] at AC
            obtain ⟨akk, hakk⟩ : ∃ x, x = (A j).kind := ⟨_, rfl⟩
            obtain ⟨aat, haat⟩ : ∃ x, x = (A j).at_ := ⟨_, rfl⟩
            obtain ⟨ann, hann⟩ : ∃ x, x = (A j).n := ⟨_, rfl⟩
            obtain ⟨anm, hanm⟩ : ∃ x, x = (A j).name := ⟨_, rfl⟩
            rw [← hakk] at d0 AC
            rw [← haat] at d1 AC
            rw [← hann] at d2 AC
            rw [← hanm] at d3 AC
            clear hA hC hOK hJ hv hD2 hakk haat hann hanm
            go_wp2_with fail
            refine AC.out.mono ?_
            rintro _ w4 ⟨rr, rfl, hrr, hJ4⟩
            obtain rfl : rr = true := by simpa using hrr
            clear hrr
            have AL := Lib.hid (alike_any hJ4 (by omega))
            clear hJ4 d0 d1 d2 d3 d4
            go_wp2_with fail
            refine AL.out.mono ?_
            rintro _ w5 ⟨rfl, hJ5⟩
            have HJ5 := Lib.hid (show ∃ D, JS w w NoK w5 fb xb (2 * (j + 1)) (j + 1) D D from ⟨_, hJ5⟩)
            clear hJ5
            go_wp2
            go_roundw
            case rel => exact ⟨j + 1, by omega, by omega, by go_num, HJ5⟩
            case measure => simp [intOf]; omega
          · have k2 : ¬ (j : Int) < 100 := by omega
            have GG := Lib.hid (show Grow w wr from by obtain ⟨D, hJ⟩ := HJ.out; exact hJ.gr)
            go_wp2_with fail
            refine (KN.out _).mono ?_
            rintro _ w9 ⟨rfl, g9⟩
            have G9 := Lib.hid (GG.out.trans2 g9)
            clear g9
            go_wp2
            go_ret
            exact ⟨rfl, G9.out⟩
        · have k1 : ¬ (j : Int) < (n : Int) := by omega
          have GG := Lib.hid (show Grow w wr from by obtain ⟨D, hJ⟩ := HJ.out; exact hJ.gr)
          go_wp2_with fail
          refine (KN.out _).mono ?_
          rintro _ w9 ⟨rfl, g9⟩
          have G9 := Lib.hid (GG.out.trans2 g9)
          clear g9
          go_wp2
          go_ret
          exact ⟨rfl, G9.out⟩
end Go.Proofs.Yticpldjcmhpjoaa
