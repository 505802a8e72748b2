/-
  The walk of the document's Crash.
-/
import Derived.Test.YticpldjcmhpjoaaQm

namespace Go.Proofs.Yticpldjcmhpjoaa
open Go.RowKit
set_option linter.unusedVariables false
set_option linter.unusedSimpArgs false

theorem doesL_len (fs : List File) (c : Chg) : (doesL fs c).length ≤ fs.length + 1 := by
  unfold doesL
  split
  · simp
  · split
    · simp
    · have := List.length_filter_le (fun p : File => !decide (p.1 = c.name)) fs
      omega
theorem play_len (fs : List File) (l : List Chg) : (play fs l).length ≤ fs.length + l.length := by
  induction l generalizing fs with
  | nil => exact Nat.le_refl _
  | cons c r ih =>
    unfold play
    have h1 := ih (doesL fs c)
    have h2 := doesL_len fs c
    simp only [List.length_cons]
    omega
theorem XsM.chat {P : Nat → Prop} {w : World} {xb : Nat} {nv wv : Value} {cs : List Value} {D : Doc} {al : Option Addr} {N cl : Nat} (h : XsM P w xb nv wv (.slice al N cl) cs D) (j : Nat) (c : Chg) (hc : D.l[j]? = some c) :
    ∃ rb dv, al = some ⟨rb, 0, none⟩ ∧ BytesIn P w dv c.data ∧ w.cell? ⟨rb, j * 4, none⟩ = some (.int .i64 (1 + (c.kind : Int))) ∧ w.cell? ⟨rb, j * 4 + 1, none⟩ = some (.string c.name) ∧ w.cell? ⟨rb, j * 4 + 2, none⟩ = some (.int .i64 (c.at_ : Int)) ∧ w.cell? ⟨rb, j * 4 + 3, none⟩ = some dv := by
  obtain ⟨dv, h1, h2, h3, h4, h5⟩ := h.chg.at j c hc
  rcases h.row.2 with ⟨e, e2⟩ | ⟨g, cap, cur, e, _⟩
  · rw [List.eq_nil_of_length_eq_zero e2] at hc; simp at hc
  · injection e with e1 _ _
    subst e1
    have k2 : ∀ i v, cs[i]? = some v → w.cell? ⟨g, i, none⟩ = some v := fun i v hv => by
      have := World.ownsRow.cells (g := g) h.row rfl i v hv
      rw [add_plain, Nat.zero_add] at this
      exact this
    exact ⟨g, dv, rfl, h1, k2 _ _ h2, k2 _ _ h3, k2 _ _ h4, k2 _ _ h5⟩
/-- all is as a row says, and nothing pends -/
theorem XsM.reset {P : Nat → Prop} {w w2 : World} {xb : Nat} {nv wv lv v : Value} {cs : List Value} {D : Doc} {fs : List File} (h : XsM P w xb nv wv lv cs D) (g : Grow w w2) (h2 : RowF (More P w w2) w2 v fs) :
    XsAt (More P w (((w2.setCell ⟨xb, 1, none⟩ v).setCell ⟨xb, 2, none⟩ v).setCell ⟨xb, 3, none⟩ (.slice none 0 0))) (((w2.setCell ⟨xb, 1, none⟩ v).setCell ⟨xb, 2, none⟩ v).setCell ⟨xb, 3, none⟩ (.slice none 0 0)) xb ⟨D.room, fs, fs, []⟩ ∧
    TurnX P w (((w2.setCell ⟨xb, 1, none⟩ v).setCell ⟨xb, 2, none⟩ v).setCell ⟨xb, 3, none⟩ (.slice none 0 0)) := by
  have h1 := h.keep (stand_grow g)
  obtain ⟨s1, t1⟩ := set_x (j := 1) (x := v) h1.hx rfl rfl
  obtain ⟨s2, t2⟩ := set_x (j := 2) (x := v) s1 rfl rfl
  obtain ⟨s3, t3⟩ := set_x (j := 3) (x := .slice none 0 0) s2 rfl rfl
  have tt := (t1.same t2).same t3
  have hs : (((w2.setCell ⟨xb, 1, none⟩ v).setCell ⟨xb, 2, none⟩ v).setCell ⟨xb, 3, none⟩ (.slice none 0 0)).heap.size = w2.heap.size := by simp
  have hN := (h2.turn tt).mono (Q := More P w (((w2.setCell ⟨xb, 1, none⟩ v).setCell ⟨xb, 2, none⟩ v).setCell ⟨xb, 3, none⟩ (.slice none 0 0))) (fun k hk hp => by unfold More at hp ⊢; rw [hs]; exact hp)
  exact ⟨⟨v, v, .slice none 0 0, [], ⟨s3, hN, hN, ⟨rfl, .inl ⟨rfl, rfl⟩⟩, .nil, fun _ => rfl, .inl h.px, (fun q hq => (by cases hq))⟩⟩, (TurnX.of_grow (P := P) g).trans tt (fun k _ e => by subst e; exact h.px)⟩
set_option maxRecDepth 20000 in
set_option maxHeartbeats 4000000 in
theorem xcrash_any {P : Nat → Prop} (xb : Nat) (D : Doc) (n0 m0 : Int) (w : World) (hX : XsAt P w xb D) (hG : Good D) (hM9 : D.was.length + D.l.length ≤ 90000) (b1 : -9223372036854775808 ≤ n0 ∧ n0 ≤ 9223372036854775807) (b2 : -9223372036854775808 ≤ m0 ∧ m0 ≤ 9223372036854775807) :
    Calls Try.prog 38 #[.pointer (some ⟨xb, 0, none⟩), .int .i64 n0, .int .i64 m0] w (XsP P xb (.tuple #[]) (crashD D n0 m0) w) := by
  obtain ⟨nv, wv, lv, cs, hM⟩ := hX
  obtain ⟨N, hN⟩ : ∃ N, N = D.l.length := ⟨_, rfl⟩
  obtain ⟨al, cl, hlv⟩ : ∃ al cl, lv = .slice al N cl := by
    rcases hM.row.2 with ⟨h1, h2⟩ | ⟨g, cap, cur, h1, _⟩
    · exact ⟨none, 0, by rw [h1, hN, h2]⟩
    · exact ⟨_, cap, by rw [hN]; exact h1⟩
  subst hlv
  have CX := Lib.hid (show ∀ W, Grow w W → W.cell? ⟨xb, 2, none⟩ = some wv ∧ W.cell? ⟨xb, 3, none⟩ = some (.slice al N cl) ∧ W.cell? ⟨xb, 1, none⟩ = some nv ∧ W.frozen? ⟨xb, 1, none⟩ = false ∧ W.frozen? ⟨xb, 2, none⟩ = false ∧ W.frozen? ⟨xb, 3, none⟩ = false ∧ xb < W.heap.size from fun W hW => by
    have hb := (Below.block hW xb (lt_blk hM.hx)).trans hM.hx
    exact ⟨by rw [cell_blk hb]; rfl, by rw [cell_blk hb]; rfl, by rw [cell_blk hb]; rfl, froz_blk hb 1, froz_blk hb 2, froz_blk hb 3, lt_blk hb⟩)
  obtain ⟨q2, q3, _, _, _, _, _⟩ := CX.out w (Grow.refl w)
  obtain ⟨k, hk⟩ : ∃ k, k = keepN n0 D.l := ⟨_, rfl⟩
  have hkv : max 0 (min n0 (N : Int)) = (k : Int) := by rw [hk, hN]; unfold keepN; omega
  have hkN : k ≤ N := by rw [hk, hN]; unfold keepN; omega
  have HKV := Lib.hid hkv
  have HKN := Lib.hid hk
  have HN := Lib.hid hN
  have HM := Lib.hid hM
  have HG := Lib.hid hG
  have HM9 := Lib.hid hM9
  have H0 := Lib.hid (show RowF (More P w w) w wv (play D.was (D.l.take 0)) from hM.was.mono (fun k _ h => .inl h))
  obtain ⟨wa, wc, hwv, _⟩ := hM.was.shape
  obtain ⟨wn, hwn⟩ : ∃ wn, wn = D.was.length := ⟨_, rfl⟩
  rw [← hwn] at hwv
  clear hM hN hk hkv hG hM9 hwn
  go_enter Try.func38, Try.ntmps38
  go_wp2
  rw [← hwv]
  clear hwv
  go_loopw [6, 7] (fun v i wr => ∃ j : Nat, j ≤ k ∧ i = .int .i64 (j : Int) ∧ Hid (RowF (More P w wr) wr v (play D.was (D.l.take j))) ∧ Hid (Grow w wr)) (fun _ i _ => k - (intOf i).toNat)
  case atStart => exact ⟨0, by omega, rfl, H0, Lib.hid (Grow.refl w)⟩
  case round =>
    obtain ⟨j, hj, rfl, HR, HGR⟩ := hrel
    obtain ⟨r2, r3, r1, f1, f2, f3, hxl⟩ := CX.out _ HGR.out
    by_cases hlt : j < k
    · have k1 : (j : Int) < (N : Int) := by omega
      have k2 : (j : Int) < n0 := by have := HKV.out; omega
      obtain ⟨c, hc⟩ : ∃ c, D.l[j]? = some c := ⟨_, List.getElem?_eq_getElem (by rw [← HN.out]; omega)⟩
      obtain ⟨rb, dv, hal, hdv, y0, y1, y2, y3⟩ := (HM.out.keep (stand_grow HGR.out)).chat j c hc
      subst hal
      obtain ⟨ad, cd, hds⟩ := hdv.shape
      subst hds
      obtain ⟨dl, hdl⟩ : ∃ dl, dl = c.data.length := ⟨_, rfl⟩
      rw [← hdl] at y3 hdv
      have hOK := (HG.out.runs.upto j).2 c hc
      have hOF := (HG.out.runs.upto j).1
      have hpl : (play D.was (D.l.take j)).length ≤ 100000 := by have := play_len D.was (D.l.take j); rw [List.length_take] at this; have := HM9.out; omega
      have DR := doesr_any (P := More P w wr) u6 (play D.was (D.l.take j)) c (.slice ad dl cd) wr D.room HG.out.room hOF hOK HR.out hpl (hdv.mono (fun _ _ h => .inl h))
      rw [show doesL (play D.was (D.l.take j)) c = play D.was (D.l.take (j + 1)) from by rw [List.take_add_one, hc, play_append]; rfl] at DR
      obtain ⟨kd, hkd⟩ : ∃ kd : Int, kd = 1 + (c.kind : Int) := ⟨_, rfl⟩
      rw [← hkd] at DR y0
      have DRH := Lib.hid DR
      clear DR hc hdv hdl hOK hOF hpl hkd
      go_wp2_with fail
      refine DRH.out.mono ?_
      rintro _ w5 ⟨v5, rfl, hr5, g5⟩
      have HR5 := Lib.hid (show RowF (More P w w5) w5 v5 (play D.was (D.l.take (j + 1))) from hr5.mono (fun q hq h => by
        unfold More at h ⊢
        have s1 := Grow.size HGR.out
        rcases h with (h | h) | h
        · exact .inl h
        · exact .inr ⟨h.1, hq⟩
        · exact .inr ⟨by omega, hq⟩))
      have HG5 := Lib.hid (HGR.out.trans2 g5)
      clear hr5 g5
      go_wp2
      go_roundw
      case rel => exact ⟨j + 1, by omega, by go_num, HR5, HG5⟩
      case measure => simp [intOf]; omega
    · have hjk : j = k := by omega
      subst hjk
      by_cases hjN : j < N
      · have k1 : (j : Int) < (N : Int) := by omega
        have k2 : ¬ (j : Int) < n0 := by have := HKV.out; omega
        have k3 : max 0 n0 = (j : Int) := by have := HKV.out; omega
        obtain ⟨c, hc⟩ : ∃ c, D.l[j]? = some c := ⟨_, List.getElem?_eq_getElem (by rw [← HN.out]; omega)⟩
        obtain ⟨rb, dv, hal, hdv, y0, y1, y2, y3⟩ := (HM.out.keep (stand_grow HGR.out)).chat j c hc
        subst hal
        obtain ⟨ad, cd, hds⟩ := hdv.shape
        subst hds
        obtain ⟨dl, hdl⟩ : ∃ dl, dl = c.data.length := ⟨_, rfl⟩
        rw [← hdl] at y3 hdv
        have hOK := (HG.out.runs.upto j).2 c hc
        have hOF := (HG.out.runs.upto j).1
        have hpl : (play D.was (D.l.take j)).length ≤ 100000 := by have := play_len D.was (D.l.take j); rw [List.length_take] at this; have := HM9.out; omega
        by_cases hk1 : c.kind = 1
        · have hOKt := torn_ok hOK m0 hk1
          have HEND := Lib.hid (show crashD D n0 m0 = ⟨D.room, doesL (play D.was (D.l.take j)) (tornC m0 c), doesL (play D.was (D.l.take j)) (tornC m0 c), []⟩ from by
            unfold crashD crashL
            rw [← HKN.out, hc]
            simp only [hk1, if_true])
          obtain ⟨t, ht⟩ : ∃ t, t = (max 0 (min m0 (c.data.length : Int))).toNat := ⟨_, rfl⟩
          have htv : max 0 (min m0 (dl : Int)) = (t : Int) := by rw [ht, hdl]; omega
          have htl : t ≤ dl := by rw [ht, hdl]; omega
          have htc : t ≤ cd := by have := hdv.cap; omega
          have hdt : (tornC m0 c).data = c.data.take t := by rw [ht]; rfl
          obtain ⟨W4, hW4⟩ : ∃ W4, W4 = wr.alloc (.cells #[.int .i64 2, .string c.name, .int .i64 (c.at_ : Int), .slice ad t cd] 91) := ⟨_, rfl⟩
          have g4 : Grow wr W4 := by rw [hW4]; exact (Grow.refl wr).alloc _
          have DR := doesr_any (P := More P w wr) u6 (play D.was (D.l.take j)) (tornC m0 c) (.slice ad t cd) W4 D.room HG.out.room hOF hOKt (HR.out.keep (stand_grow g4)) hpl (by rw [hdt]; exact (((hdv.turn (Turn.of_grow (P := P) g4)).take t (by omega))).mono (fun _ _ h => .inl h))
          rw [show (1 : Int) + ((tornC m0 c).kind : Int) = 2 from by rw [show (tornC m0 c).kind = 1 from hk1]; rfl, show (tornC m0 c).name = c.name from rfl, show (tornC m0 c).at_ = c.at_ from rfl] at DR
          have y0' : (1 : Int) + (c.kind : Int) = 2 := by omega
          rw [y0'] at y0
          have DRH := Lib.hid DR
          have HW4 := Lib.hid hW4
          have G4 := Lib.hid (HGR.out.trans g4)
          clear DR hc hdv hOK hOF hpl hdl ht hdt hW4 g4 hk1 hOKt y0'
          go_wp2_with fail
          rw [← HW4.out]
          refine DRH.out.mono ?_
          rintro _ w5 ⟨v5, rfl, hr5, g5⟩
          have HGG := Lib.hid (G4.out.trans2 g5)
          have HRR := Lib.hid (show RowF (More P w w5) w5 v5 (doesL (play D.was (D.l.take j)) (tornC m0 c)) from hr5.mono (fun q hq h => by
            unfold More at h ⊢
            have s1 := Grow.size HGR.out
            have s2 := Grow.size G4.out
            rcases h with (h | h) | h
            · exact .inl h
            · exact .inr ⟨h.1, hq⟩
            · exact .inr ⟨by omega, hq⟩))
          clear hr5 g5
          obtain ⟨va, vc, hvv, hvx⟩ := HRR.out.shape
          clear hvx
          have FN := HM.out.reset HGG.out HRR.out
          obtain ⟨p2, p3, p1, e1, e2, e3, exl⟩ := CX.out _ HGG.out
          obtain ⟨vl, hvl⟩ : ∃ vl, vl = (doesL (play D.was (D.l.take j)) (tornC m0 c)).length := ⟨_, rfl⟩
          rw [← hvl] at hvv
          have HVL := Lib.hid hvl
          clear hvl
          subst hvv
          have FNH := Lib.hid FN
          clear FN
          go_wp2
          go_end0
          refine ⟨rfl, ?_, FNH.out.2⟩
          rw [HEND.out]
          exact FNH.out.1
        · have HEND := Lib.hid (show crashD D n0 m0 = ⟨D.room, play D.was (D.l.take j), play D.was (D.l.take j), []⟩ from by
            unfold crashD crashL
            rw [← HKN.out, hc]
            simp only [hk1, if_false])
          have hk2 : ((1 + (c.kind : Int)) == 2) = false := by simp; omega
          obtain ⟨kd, hkd⟩ : ∃ kd : Int, kd = 1 + (c.kind : Int) := ⟨_, rfl⟩
          rw [← hkd] at hk2 y0
          clear hc hdv hdl hOK hOF hpl hk1 hkd
          obtain ⟨va, vc, hvv, hvx⟩ := HR.out.shape
          clear hvx
          have FN := HM.out.reset HGR.out HR.out
          obtain ⟨p2, p3, p1, e1, e2, e3, exl⟩ := CX.out _ HGR.out
          obtain ⟨vl, hvl⟩ : ∃ vl, vl = (play D.was (D.l.take j)).length := ⟨_, rfl⟩
          rw [← hvl] at hvv
          have HVL := Lib.hid hvl
          clear hvl
          subst hvv
          have FNH := Lib.hid FN
          clear FN
          go_wp2
          go_end0
          refine ⟨rfl, ?_, FNH.out.2⟩
          rw [HEND.out]
          exact FNH.out.1
      · have k1 : ¬ (j : Int) < (N : Int) := by omega
        have k4 : ¬ max 0 n0 < (N : Int) := by have := HKV.out; omega
        have HEND := Lib.hid (show crashD D n0 m0 = ⟨D.room, play D.was (D.l.take j), play D.was (D.l.take j), []⟩ from by
          unfold crashD crashL
          rw [← HKN.out, List.getElem?_eq_none (by have := HN.out; omega)])
        obtain ⟨va, vc, hvv, hvx⟩ := HR.out.shape
        clear hvx
        have FN := HM.out.reset HGR.out HR.out
        obtain ⟨p2, p3, p1, e1, e2, e3, exl⟩ := CX.out _ HGR.out
        obtain ⟨vl, hvl⟩ : ∃ vl, vl = (play D.was (D.l.take j)).length := ⟨_, rfl⟩
        rw [← hvl] at hvv
        have HVL := Lib.hid hvl
        clear hvl
        subst hvv
        have FNH := Lib.hid FN
        clear FN
        go_wp2
        go_end0
        refine ⟨rfl, ?_, FNH.out.2⟩
        rw [HEND.out]
        exact FNH.out.1
end Go.Proofs.Yticpldjcmhpjoaa
