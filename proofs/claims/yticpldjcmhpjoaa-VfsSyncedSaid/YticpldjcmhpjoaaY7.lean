/-
  The walk of VfsRoom.
-/
import Derived.Test.YticpldjcmhpjoaaY6

namespace Go.Proofs.Yticpldjcmhpjoaa
open Go.RowKit
set_option linter.unusedVariables false
set_option linter.unusedSimpArgs false

def NoK : Nat → Prop := fun _ => False
theorem JS.start {w w1 w2 w3 : World} {fb xb room : Nat} (hr : room ≤ 1073741824) (g1 : Grow w w1) (hf : FsAt (More (fun _ => False) w1 w2) w2 fb (emptyD room).fs 0) (g2 : Grow w1 w2) (hx : XsAt (More (fun _ => False) w2 w3) w3 xb (emptyD room)) (g3 : Grow w2 w3) :
    JS w w NoK w3 fb xb 0 0 (emptyD room) (emptyD room) := by
  have z1 := Grow.size g1
  have z2 := Grow.size g2
  have z3 := Grow.size g3
  refine ⟨_, _, 0, ⟨hf.keep (stand_grow g3), hx, fun k hk => ?_, fun k hk => ?_, fun k hk => ?_, fun k hk => ?_, fun k hk hq => ?_, (fun k hk => hk.elim), (fun k hk => hk.elim), (fun k hk => hk.elim), by omega, (g1.trans2 g2).trans2 g3, emptyD_good room hr, emptyD_good room hr⟩, Nat.le_refl _, Nat.le_refl _⟩
  · rcases hk with hk | hk
    · exact hk.elim
    · omega
  · rcases hk with hk | hk
    · exact hk.elim
    · omega
  · rcases hk with hk | hk
    · exact hk.elim
    · omega
  · rcases hk with hk | hk
    · exact hk.elim
    · omega
  · rcases hk with hk | hk
    · exact hk.elim
    · rcases hq with hq | hq
      · exact hq.elim
      · omega
/-- an act's cells, in a world that only grew -/
theorem ActCs.grown {w W : World} {b p : Nat} {a : Actn} {v : Value} (h : ActCs w b p a v) (g : Grow w W) : W.cell? ⟨b, p, none⟩ = some (.int .i64 a.kind) ∧ W.cell? ⟨b, p + 1, none⟩ = some (.int .i64 a.at_) ∧ W.cell? ⟨b, p + 2, none⟩ = some (.int .i64 a.n) ∧ W.cell? ⟨b, p + 3, none⟩ = some (.string a.name) ∧ W.cell? ⟨b, p + 4, none⟩ = some v :=
  ⟨(Below.cell g (lt_of_cell h.kind)).trans h.kind, (Below.cell g (lt_of_cell h.at_)).trans h.at_, (Below.cell g (lt_of_cell h.n)).trans h.n, (Below.cell g (lt_of_cell h.name)).trans h.name, (Below.cell g (lt_of_cell h.rows)).trans h.rows⟩
theorem step_room {D : Doc} (h : Good D) (a : Actn) (hl : a.b.flatten.length ≤ 1073741824) : (stepD D a).room = D.room := (h.step a hl).room
set_option maxRecDepth 20000 in
set_option maxHeartbeats 2000000 in
theorem room_any (room : Int) (hr : -9223372036854775808 ≤ room ∧ room ≤ 9223372036854775807) (a : Option Addr) (n c : Nat) (A : Nat → Actn) (V : Nat → Value) (w : World) (h : ActsAt w a n A V) (hn : n ≤ maxLen) :
    Calls Try.prog 4 #[.int .i64 room, .slice a n c] w (OnlyP (.bool true) w) := by
  have HV := Lib.hid (heavy_any a n c A V w h hn)
  have HA := Lib.hid h
  have KN := Lib.hid known_any
  unfold maxLen at hn
  clear h
  go_enter Try.func4, Try.ntmps4
  go_wp2_with fail
  refine HV.out.mono ?_
  rintro _ w1 ⟨r, rfl, hL, g1⟩
  have HL := Lib.hid hL
  have G1 := Lib.hid g1
  clear hL g1
  cases r with
  | true =>
    go_wp2
    go_ret
    exact ⟨rfl, G1.out⟩
  | false =>
    have HL2 := Lib.hid (HL.out rfl)
    clear HL
    by_cases c1 : room < 0
    · go_wp2
      go_ret
      exact ⟨rfl, G1.out⟩
    · by_cases c2 : 1048576 < room
      · go_wp2
        go_ret
        exact ⟨rfl, G1.out⟩
      · obtain ⟨rm, rfl⟩ := Int.eq_ofNat_of_zero_le (show 0 ≤ room by omega)
        have NF := Lib.hid (new2_any rm (by omega) w1)
        have NX := Lib.hid (fun W => xnew_any rm (by omega) W)
        have HRM := Lib.hid (show rm ≤ 1073741824 from by omega)
        go_wp2_with fail
        refine NF.out.mono ?_
        rintro _ w2 ⟨rfl, hf2, g2⟩
        have G2 := Lib.hid g2
        have HF2 := Lib.hid hf2
        obtain ⟨fb, hfb⟩ : ∃ fb, fb = w1.heap.size + 3 := ⟨_, rfl⟩
        rw [← hfb] at HF2 ⊢
        clear g2 hf2 hfb
        go_wp2_with fail
        refine (NX.out _).mono ?_
        rintro _ w3 ⟨rfl, hx3, g3⟩
        have J0 := Lib.hid (JS.start HRM.out G1.out HF2.out G2.out hx3 g3)
        obtain ⟨xb, hxb⟩ : ∃ xb, xb = w2.heap.size := ⟨_, rfl⟩
        rw [← hxb] at J0 ⊢
        clear hx3 g3 hxb
        have JJ := Lib.hid (show ∃ D E, JS w w NoK w3 fb xb (2 * 0) 0 D E ∧ D.room = rm from ⟨_, _, J0.out, rfl⟩)
        go_wp2
        go_loopw [9] (fun i wr => ∃ j : Nat, j ≤ n ∧ j ≤ 100 ∧ i = .int .i64 (j : Int) ∧ Hid (∃ D E, JS w w NoK wr fb xb (2 * j) j D E ∧ D.room = rm)) (fun i _ => n - (intOf i).toNat)
        case atStart => exact ⟨0, by omega, by omega, rfl, JJ⟩
        case round =>
          obtain ⟨j, hj, hj1, rfl, HJ⟩ := hrel
          by_cases hlt : j < n
          · have k1 : (j : Int) < (n : Int) := by omega
            by_cases hlt2 : j < 100
            · have k2 : (j : Int) < 100 := by omega
              obtain ⟨D, E, hJ, hDr⟩ := HJ.out
              obtain ⟨b, o, ha, hA⟩ := HA.out (by omega)
              subst ha
              have hC := hA j hlt
              have hOK := hC.ok (HL2.out j hlt hlt2)
              obtain ⟨d0, d1, d2, d3, d4⟩ := hC.grown hJ.gr
              have AC := Lib.hid (act_any hJ (by omega) (by omega) (A j) (V j) hOK)
              have HSR := Lib.hid (step_room hJ.good.1 (A j) hOK.sum)
              obtain ⟨q, bl, cq, hv⟩ : ∃ q bl cq, V j = .slice q bl cq := by obtain ⟨x, c, e, _⟩ := hC.parts; exact ⟨_, _, _, e⟩
              rw [hv] at d4 AC
              obtain ⟨D2, hD2⟩ : ∃ D2, D2 = stepD D (A j) := ⟨_, rfl⟩
              obtain ⟨E2, hE2⟩ : ∃ E2, E2 = stepD E (A j) := ⟨_, rfl⟩
              unfold ActP at AC
              rw [← hD2, ← hE2] at AC
              rw [← hD2, hDr] at HSR
              obtain ⟨akk, hakk⟩ : ∃ x, x = (A j).kind := ⟨_, rfl⟩
              obtain ⟨aat, haat⟩ : ∃ x, x = (A j).at_ := ⟨_, rfl⟩
              obtain ⟨ann, hann⟩ : ∃ x, x = (A j).n := ⟨_, rfl⟩
              obtain ⟨anm, hanm⟩ : ∃ x, x = (A j).name := ⟨_, rfl⟩
              rw [← hakk] at d0 AC
              rw [← haat] at d1 AC
              rw [← hann] at d2 AC
              rw [← hanm] at d3 AC
              clear hA hC hOK hJ hv hD2 hE2 hDr hakk haat hann hanm
              go_wp2_with fail
              refine AC.out.mono ?_
              rintro _ w4 ⟨rr, rfl, _, hJ4⟩
              have US := js_used hJ4
              obtain ⟨sm, hsm⟩ : ∃ sm, sm = sumL D2.now := ⟨_, rfl⟩
              have hle : sm ≤ rm := by rw [hsm, ← HSR.out]; exact hJ4.good.1.runs.last.sum
              rw [← hsm] at US
              have US := Lib.hid US
              have k3 : ¬ (rm : Int) < (sm : Int) := by omega
              clear hJ4 hsm d0 d1 d2 d3 d4
              go_wp2_with fail
              refine US.out.mono ?_
              rintro _ w5 ⟨rfl, hJ5, _⟩
              have HJ5 := Lib.hid (show ∃ D E, JS w w NoK w5 fb xb (2 * (j + 1)) (j + 1) D E ∧ D.room = rm from ⟨_, _, hJ5, HSR.out⟩)
              clear hJ5
              go_wp2
              go_roundw
              case rel => exact ⟨j + 1, by omega, by omega, by go_num, HJ5⟩
              case measure => simp [intOf]; omega
            · have k2 : ¬ (j : Int) < 100 := by omega
              have GG := Lib.hid (show Grow w wr from by obtain ⟨D, E, hJ, _⟩ := HJ.out; exact hJ.gr)
              go_wp2_with fail
              refine (KN.out _).mono ?_
              rintro _ w9 ⟨rfl, g9⟩
              have G9 := Lib.hid (GG.out.trans2 g9)
              clear g9
              go_wp2
              go_ret
              exact ⟨rfl, G9.out⟩
          · have k1 : ¬ (j : Int) < (n : Int) := by omega
            have GG := Lib.hid (show Grow w wr from by obtain ⟨D, E, hJ, _⟩ := HJ.out; exact hJ.gr)
            go_wp2_with fail
            refine (KN.out _).mono ?_
            rintro _ w9 ⟨rfl, g9⟩
            have G9 := Lib.hid (GG.out.trans2 g9)
            clear g9
            go_wp2
            go_ret
            exact ⟨rfl, G9.out⟩
end Go.Proofs.Yticpldjcmhpjoaa
