/-
  A crash at nothing gives what was synced; the document's FS stands while another plays; the walk of VfsSynced.
-/
import Derived.Test.YticpldjcmhpjoaaZ3
import Derived.Test.YticpldjcmhpjoaaY7

namespace Go.Proofs.Yticpldjcmhpjoaa
open Go.RowKit
set_option linter.unusedVariables false
set_option linter.unusedSimpArgs false

theorem over_none (b : List UInt8) (i : Nat) : over b i [] = b := by
  unfold over
  simp
theorem crashD_none (D : Doc) (n m : Int) (hn : n ≤ 0) (hm : m ≤ 0) : crashD D n m = ⟨D.room, D.was, D.was, []⟩ := by
  have hk : keepN n D.l = 0 := by unfold keepN; omega
  have hc : crashL D.was D.l n m = D.was := by
    unfold crashL
    rw [hk]
    cases hl : D.l[0]? with
    | none => rfl
    | some c =>
      have ht : (tornC m c).data = [] := by
        simp only [tornC]
        rw [show (max 0 (min m (c.data.length : Int))).toNat = 0 from by omega]
        rfl
      simp only [List.take_zero, play]
      split
      · rename_i h1
        unfold doesL
        rw [show (tornC m c).kind = 1 from h1, ht]
        simp only [show ¬ (1 = 0) from by omega, if_true, if_false, over_none]
        have : ∀ fs : List File, (fs.map fun p => if p.1 = (tornC m c).name then (p.1, p.2) else p) = fs := fun fs => by
          induction fs with
          | nil => rfl
          | cons p r ih => simp only [List.map_cons, ih]; split <;> rfl
        exact this _
      · rfl
  unfold crashD
  rw [hc]
theorem stepD_was (D : Doc) (a : Actn) (h : a.kind ≤ 3) : (stepD D a).was = D.was := by
  unfold stepD
  split
  · rcases create_cases D a.name a.b.flatten with e | ⟨c, e⟩ <;> rw [e] <;> rfl
  · split
    · rcases write_cases D a.name a.at_ a.b.flatten with e | ⟨c, e⟩ <;> rw [e] <;> rfl
    · split
      · rcases remove_cases D a.name with e | ⟨c, e⟩ <;> rw [e] <;> rfl
      · rw [if_neg (by omega), if_neg (by omega)]
theorem ActCs.grow {w W : World} {b p : Nat} {a : Actn} {v : Value} (h : ActCs w b p a v) (g : Grow w W) : ActCs W b p a v := by
  obtain ⟨d0, d1, d2, d3, d4⟩ := h.grown g
  exact ⟨d0, d1, d2, d3, d4, h.parts.grow g, h.size, h.atb, h.nb, h.few, h.lens⟩
theorem ActsAt.grow {w W : World} {a : Option Addr} {n : Nat} {A : Nat → Actn} {V : Nat → Value} (h : ActsAt w a n A V) (g : Grow w W) : ActsAt W a n A V := fun h0 => by
  obtain ⟨b, o, h1, h2⟩ := h h0
  exact ⟨b, o, h1, fun i hi => (h2 i hi).grow g⟩
/-- a third FS is made: the second stands from here on -/
theorem JS.swap {w w6 w7 : World} {fb xb yb s t room : Nat} {D : Doc} (h : JS w w NoK w6 fb xb s t D D) (hr : room ≤ 1073741824) (hy : XsAt (More (fun _ => False) w6 w7) w7 yb (emptyD room)) (g : Grow w6 w7) :
    ∃ Q, JS w w7 Q w7 fb yb s 0 D (emptyD room) ∧ ∀ w9 s2 t2 E, JS w w7 Q w9 fb yb s2 t2 D E → JS w w NoK w9 fb xb s2 t D D := by
  obtain ⟨P, Q, K, h, k1, k2⟩ := h
  have hz := Grow.size g
  have hw := Grow.size h.gr
  refine ⟨Q, ⟨P, More (fun _ => False) w6 w7, K, ⟨h.fs.keep (stand_grow g), hy, h.lo, fun k hk => ?_, fun k hk => Nat.lt_of_lt_of_le (h.hi k hk) hz, fun k hk => ?_, fun k hk hq => ?_, fun k hk => ⟨fun hp => h.dis k hp hk, fun hq => ?_⟩, fun k hk => Nat.lt_of_lt_of_le (h.hix k hk) hz, fun _ _ => rfl, Nat.le_refl _, h.gr.trans2 g, h.gd, emptyD_good room hr⟩, k1, Nat.le_refl _⟩, ?_⟩
  · rcases hk with hk | hk
    · exact hk.elim
    · omega
  · rcases hk with hk | hk
    · exact hk.elim
    · exact hk.2
  · rcases hq with hq | hq
    · exact hq.elim
    · have := h.hi k hk; omega
  · rcases hq with hq | hq
    · exact hq.elim
    · have := h.hix k hk; omega
  · rintro w9 s2 t2 E ⟨P2, Q2, K2, h2, j1, j2⟩
    have hz9 := h2.rz
    exact ⟨P2, Q, K2, ⟨h2.fs, (h.xs.keep (stand_grow g)).keep (fun k hk _ => h2.rs k hk), h2.lo, h.lox, h2.hi, fun k hk => by have := h2.rlt k hk; omega, fun k hp hk => (h2.rp k hk).1 hp, (fun k hk => hk.elim), (fun k hk => hk.elim), (fun k hk => hk.elim), by have := Grow.size h2.gr; omega, h2.gr, h2.gd, h.ge⟩, j1, k2⟩
set_option maxRecDepth 20000 in
set_option maxHeartbeats 4000000 in
theorem synced_any (a : Option Addr) (n c : Nat) (A : Nat → Actn) (V : Nat → Value) (a' : Option Addr) (n' c' : Nat) (A' : Nat → Actn) (V' : Nat → Value) (p q : Int) (hp : -9223372036854775808 ≤ p ∧ p ≤ 9223372036854775807) (hq : -9223372036854775808 ≤ q ∧ q ≤ 9223372036854775807)
    (w : World) (h : ActsAt w a n A V) (hn : n ≤ maxLen) (h' : ActsAt w a' n' A' V') (hn' : n' ≤ maxLen) :
    Calls Try.prog 6 #[.slice a n c, .slice a' n' c', .int .i64 p, .int .i64 q] w (OnlyP (.bool true) w) := by
  have HV := Lib.hid (heavy_any a n c A V w h hn)
  have HV' := Lib.hid (fun W (hW : Grow w W) => heavy_any a' n' c' A' V' W (h'.grow hW) hn')
  have HA := Lib.hid h
  have HA' := Lib.hid h'
  have KN := Lib.hid known_any
  unfold maxLen at hn hn'
  clear h h'
  go_enter Try.func6, Try.ntmps6
  go_wp2_with fail
  refine HV.out.mono ?_
  rintro _ w1 ⟨r, rfl, hL, g1⟩
  have HL := Lib.hid hL
  have G1 := Lib.hid g1
  clear hL g1
  cases r with
  | true =>
    go_wp2
    go_ret
    exact ⟨rfl, G1.out⟩
  | false =>
    have HL2 := Lib.hid (HL.out rfl)
    clear HL
    go_wp2_with fail
    refine (HV'.out _ G1.out).mono ?_
    rintro _ w2 ⟨r', rfl, hL', g2⟩
    have HL' := Lib.hid hL'
    have G2 := Lib.hid (G1.out.trans2 g2)
    clear hL' g2 HV'
    cases r' with
    | true =>
      go_wp2
      go_ret
      exact ⟨rfl, G2.out⟩
    | false =>
      have HL2' := Lib.hid (HL'.out rfl)
      clear HL'
      by_cases c1 : 0 < p
      · go_wp2
        go_ret
        exact ⟨rfl, G2.out⟩
      · by_cases c2 : 0 < q
        · go_wp2
          go_ret
          exact ⟨rfl, G2.out⟩
        · have NF := Lib.hid (new2_any 1048576 (by omega) w2)
          have NX := Lib.hid (fun W => xnew_any 1048576 (by omega) W)
          go_wp2_with fail
          refine NF.out.mono ?_
          rintro _ w3 ⟨rfl, hf3, g3⟩
          have G3 := Lib.hid g3
          have HF3 := Lib.hid hf3
          obtain ⟨fb, hfb⟩ : ∃ fb, fb = w2.heap.size + 3 := ⟨_, rfl⟩
          rw [← hfb] at HF3 ⊢
          clear g3 hf3 hfb
          go_wp2_with fail
          refine (NX.out _).mono ?_
          rintro _ w4 ⟨rfl, hx4, g4⟩
          have J0 := Lib.hid (JS.start (by omega) G2.out HF3.out G3.out hx4 g4)
          obtain ⟨xb, hxb⟩ : ∃ xb, xb = w3.heap.size := ⟨_, rfl⟩
          rw [← hxb] at J0 ⊢
          clear hx4 g4 hxb
          have JJ := Lib.hid (show ∃ D, JS w w NoK w4 fb xb (2 * 0) 0 D D from ⟨_, J0.out⟩)
          go_wp2
          go_loopw [13] (fun i wr => ∃ j : Nat, j ≤ n ∧ j ≤ 100 ∧ i = .int .i64 (j : Int) ∧ Hid (∃ D, JS w w NoK wr fb xb (2 * j) j D D)) (fun i _ => n - (intOf i).toNat)
          case atStart => exact ⟨0, by omega, by omega, rfl, JJ⟩
          case round =>
            obtain ⟨j, hj, hj1, rfl, HJ⟩ := hrel
            by_cases hin : j < n ∧ j < 100
            · obtain ⟨hlt, hlt2⟩ := hin
              have k1 : (j : Int) < (n : Int) := by omega
              have k2 : (j : Int) < 100 := by omega
              obtain ⟨D, hJ⟩ := HJ.out
              obtain ⟨b, o, ha, hA⟩ := HA.out (by omega)
              subst ha
              have hC := hA j hlt
              have hOK := hC.ok (HL2.out j hlt hlt2)
              obtain ⟨d0, d1, d2, d3, d4⟩ := hC.grown hJ.gr
              have AC := Lib.hid (act_any hJ (by omega) (by omega) (A j) (V j) hOK)
              obtain ⟨qq, bl, cq, hv⟩ : ∃ q bl cq, V j = .slice q bl cq := by obtain ⟨x, c, e, _⟩ := hC.parts; exact ⟨_, _, _, e⟩
              rw [hv] at d4 AC
              obtain ⟨D2, hD2⟩ : ∃ D2, D2 = stepD D (A j) := ⟨_, rfl⟩
              unfold ActP at AC
              rw [← hD2] at AC
              obtain ⟨akk, hakk⟩ : ∃ x, x = (A j).kind := ⟨_, rfl⟩
              obtain ⟨aat, haat⟩ : ∃ x, x = (A j).at_ := ⟨_, rfl⟩
              obtain ⟨ann, hann⟩ : ∃ x, x = (A j).n := ⟨_, rfl⟩
              obtain ⟨anm, hanm⟩ : ∃ x, x = (A j).name := ⟨_, rfl⟩
              rw [← hakk] at d0 AC
              rw [← haat] at d1 AC
              rw [← hann] at d2 AC
              rw [← hanm] at d3 AC
              clear hA hC hOK hJ hv hD2 hakk haat hann hanm
              go_wp2_with fail
              refine AC.out.mono ?_
              rintro _ w5 ⟨rr, rfl, _, hJ5⟩
              have HJ5 := Lib.hid (show ∃ D, JS w w NoK w5 fb xb (2 * (j + 1)) (j + 1) D D from ⟨_, hJ5⟩)
              clear hJ5 d0 d1 d2 d3 d4
              go_wp2
              go_roundw
              case rel => exact ⟨j + 1, by omega, by omega, by go_num, HJ5⟩
              case measure => simp [intOf]; omega
            · obtain ⟨jb, hjb⟩ : ∃ jb : Bool, jb = decide ((j : Int) < (n : Int)) := ⟨_, rfl⟩
              have hout : ¬ ((j : Int) < (n : Int) ∧ (j : Int) < 100) := by omega
              have SY := Lib.hid (show Calls Try.prog 22 #[.pointer (some ⟨fb, 0, none⟩)] wr fun e w' => e = .returned (.tuple #[]) ∧ Hid (∃ D, JS w w NoK w' fb xb 300 100 ⟨D.room, D.now, D.now, []⟩ D) from by
                obtain ⟨D, hJ⟩ := HJ.out
                refine (js_sync hJ (by omega)).mono ?_
                rintro e w' ⟨h1, h2⟩
                exact ⟨h1, Lib.hid ⟨D, h2.mono (by omega) (by omega)⟩⟩)
              have SX := Lib.hid (show ∀ W, (∃ D, JS w w NoK W fb xb 300 100 ⟨D.room, D.now, D.now, []⟩ D) → Calls Try.prog 23 #[.pointer (some ⟨xb, 0, none⟩)] W fun e w' => e = .returned (.tuple #[]) ∧ Hid (∃ D, D.was = D.now ∧ D.l = [] ∧ JS w w NoK w' fb xb 300 101 D D) from by
                rintro W ⟨D, hJ⟩
                refine (js_xsync hJ (by omega)).mono ?_
                rintro e w' ⟨h1, h2⟩
                exact ⟨h1, Lib.hid ⟨⟨D.room, D.now, D.now, []⟩, rfl, rfl, h2⟩⟩)
              clear hjb jb hin
              have hways : (¬ (j : Int) < (n : Int)) ∨ ((j : Int) < (n : Int) ∧ ¬ (j : Int) < 100) := by omega
              clear hout
              rcases hways with k1 | ⟨k1, k2⟩
              all_goals
                go_wp2_with fail
                refine SY.out.mono ?_
                rintro _ w5 ⟨rfl, hj5⟩
                go_wp2_with fail
                refine (SX.out _ hj5.out).mono ?_
                rintro _ w6 ⟨rfl, hj6⟩
                clear hj5
                go_wp2_with fail
                refine (NX.out _).mono ?_
                rintro _ w7 ⟨rfl, hy7, g7⟩
                obtain ⟨D, hD1, hD2, hJ6⟩ := hj6.out
                obtain ⟨yb, hyb⟩ : ∃ yb, yb = w6.heap.size := ⟨_, rfl⟩
                rw [← hyb] at hy7 ⊢
                obtain ⟨Q, hJ7, hback⟩ := hJ6.swap (by omega) hy7 g7
                have BACK := Lib.hid hback
                have HD1 := Lib.hid hD1
                have HD2 := Lib.hid hD2
                have HDE := Lib.hid (show (⟨D.room, D.now, D.now, []⟩ : Doc) = D from by
                  obtain ⟨r, nw, ws, l⟩ := D
                  simp only at hD1 hD2
                  rw [hD1, hD2])
                have JK := Lib.hid (show ∃ D9 E, JS w w7 Q w7 fb yb (300 + 2 * 0) 0 D9 E ∧ D9.was = D.now ∧ D9.room = D.room from ⟨D, _, hJ7, hD1, rfl⟩)
                clear hJ7 hback hD1 hD2 hy7 g7 hyb hj6 hJ6
                go_wp2
                go_loopw [16] (fun i wr => ∃ j : Nat, j ≤ n' ∧ j ≤ 100 ∧ i = .int .i64 (j : Int) ∧ Hid (∃ D9 E, JS w w7 Q wr fb yb (300 + 2 * j) j D9 E ∧ D9.was = D.now ∧ D9.room = D.room)) (fun i _ => n' - (intOf i).toNat)
                case atStart => exact ⟨0, by omega, by omega, rfl, JK⟩
                case round =>
                  obtain ⟨i, hi, hi1, rfl, HI⟩ := hrel
                  by_cases hin : i < n' ∧ i < 100
                  · obtain ⟨hlt, hlt2⟩ := hin
                    have k5 : (i : Int) < (n' : Int) := by omega
                    have k6 : (i : Int) < 100 := by omega
                    obtain ⟨D9, E9, hJ, hW9, hR9⟩ := HI.out
                    obtain ⟨b, o, ha, hA⟩ := HA'.out (by omega)
                    subst ha
                    have hC := hA i hlt
                    have hOK := hC.ok (HL2'.out i hlt hlt2)
                    obtain ⟨d0, d1, d2, d3, d4⟩ := hC.grown hJ.gr
                    obtain ⟨akk, hakk⟩ : ∃ x, x = (A' i).kind := ⟨_, rfl⟩
                    rw [← hakk] at d0
                    by_cases hk3 : akk ≤ 3
                    · have AC := Lib.hid (act_any hJ (by omega) (by omega) (A' i) (V' i) hOK)
                      have HSW := Lib.hid (show (stepD D9 (A' i)).was = D.now ∧ (stepD D9 (A' i)).room = D.room from ⟨(stepD_was D9 (A' i) (by omega)).trans hW9, (step_room hJ.good.1 (A' i) hOK.sum).trans hR9⟩)
                      obtain ⟨qq, bl, cq, hv⟩ : ∃ q bl cq, V' i = .slice q bl cq := by obtain ⟨x, c, e, _⟩ := hC.parts; exact ⟨_, _, _, e⟩
                      rw [hv] at d4 AC
                      obtain ⟨D2, hD2⟩ : ∃ D2, D2 = stepD D9 (A' i) := ⟨_, rfl⟩
                      obtain ⟨E2, hE2⟩ : ∃ E2, E2 = stepD E9 (A' i) := ⟨_, rfl⟩
                      unfold ActP at AC
                      rw [← hD2, ← hE2] at AC
                      rw [← hD2] at HSW
                      obtain ⟨aat, haat⟩ : ∃ x, x = (A' i).at_ := ⟨_, rfl⟩
                      obtain ⟨ann, hann⟩ : ∃ x, x = (A' i).n := ⟨_, rfl⟩
                      obtain ⟨anm, hanm⟩ : ∃ x, x = (A' i).name := ⟨_, rfl⟩
                      rw [← hakk] at AC
                      rw [← haat] at d1 AC
                      rw [← hann] at d2 AC
                      rw [← hanm] at d3 AC
                      clear hA hC hOK hJ hv hD2 hE2 hakk haat hann hanm hW9 hR9
                      go_wp2_with fail
                      refine AC.out.mono ?_
                      rintro _ w8 ⟨rr, rfl, _, hJ8⟩
                      have HJ8 := Lib.hid (show ∃ D9 E, JS w w7 Q w8 fb yb (300 + 2 * (i + 1)) (i + 1) D9 E ∧ D9.was = D.now ∧ D9.room = D.room from ⟨_, _, hJ8, HSW.out⟩)
                      clear hJ8 d0 d1 d2 d3 d4
                      go_wp2
                      go_roundw
                      case rel => exact ⟨i + 1, by omega, by omega, by go_num, HJ8⟩
                      case measure => simp [intOf]; omega
                    · have HJ8 := Lib.hid (show ∃ D9 E, JS w w7 Q wr fb yb (300 + 2 * (i + 1)) (i + 1) D9 E ∧ D9.was = D.now ∧ D9.room = D.room from ⟨_, _, hJ.mono (by omega) (by omega), hW9, hR9⟩)
                      clear hA hC hOK hJ hakk hW9 hR9 d1 d2 d3 d4
                      go_wp2
                      go_roundw
                      case rel => exact ⟨i + 1, by omega, by omega, by go_num, HJ8⟩
                      case measure => simp [intOf]; omega
                  · have CR := Lib.hid (show Calls Try.prog 24 #[.pointer (some ⟨fb, 0, none⟩), .int .i64 p, .int .i64 q] wr fun e w' => e = .returned (.tuple #[]) ∧ Hid (JS w w NoK w' fb xb 600 101 D D) from by
                      obtain ⟨D9, E9, hJ, hW9, hR9⟩ := HI.out
                      refine (js_crash hJ (by omega) p q hp hq).mono ?_
                      rintro e w' ⟨h1, h2⟩
                      rw [crashD_none D9 p q (by omega) (by omega), hW9, hR9, HDE.out] at h2
                      exact ⟨h1, Lib.hid ((BACK.out _ _ _ _ h2).mono (by omega) (Nat.le_refl _))⟩)
                    have AL := Lib.hid (fun (W : World) (hW : JS w w NoK W fb xb 600 101 D D) => alike_any hW (by omega))
                    have hways : (¬ (i : Int) < (n' : Int)) ∨ ((i : Int) < (n' : Int) ∧ ¬ (i : Int) < 100) := by omega
                    clear hin
                    rcases hways with k5 | ⟨k5, k6⟩
                    all_goals
                      go_wp2_with fail
                      refine CR.out.mono ?_
                      rintro _ w8 ⟨rfl, hj8⟩
                      go_wp2_with fail
                      refine (AL.out _ hj8.out).mono ?_
                      rintro _ w9 ⟨rfl, hj9⟩
                      have G9 := Lib.hid (show Grow w w9 from hj9.gr)
                      clear hj8 hj9
                      go_wp2_with fail
                      refine (KN.out _).mono ?_
                      rintro _ w10 ⟨rfl, g10⟩
                      have G10 := Lib.hid (G9.out.trans2 g10)
                      clear g10
                      go_wp2
                      go_ret
                      exact ⟨rfl, G10.out⟩
end Go.Proofs.Yticpldjcmhpjoaa
