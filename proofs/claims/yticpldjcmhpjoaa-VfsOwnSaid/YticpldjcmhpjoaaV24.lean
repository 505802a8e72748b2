/-
  The walk of Crash.
-/
import Derived.Test.YticpldjcmhpjoaaV23
namespace Go.Proofs.Yticpldjcmhpjoaa
open Go.RowKit
set_option linter.unusedVariables false
set_option linter.unusedSimpArgs false

theorem FsM.rowcell {P : Nat → Prop} {w : World} {fb pb mb sb n m : Nat} {cs : List Value} {S : Fs} {ac : Option Addr} {N cc : Nat} (h : FsM P w fb pb mb sb n m (.slice ac N cc) cs S) (j : Nat) (c : Chg) (hc : S.l[j]? = some c) :
    ∃ rb dv, ac = some ⟨rb, 0, none⟩ ∧ BytesIn P w dv c.data ∧ w.cell? ⟨rb, j * 4, none⟩ = some (.int .i64 (c.kind : Int)) ∧ w.cell? ⟨rb, j * 4 + 1, none⟩ = some (.string c.name) ∧ w.cell? ⟨rb, j * 4 + 2, none⟩ = some (.int .i64 (c.at_ : Int)) ∧ w.cell? ⟨rb, j * 4 + 3, none⟩ = some dv := by
  obtain ⟨dv, h1, h2, h3, h4, h5⟩ := h.chg.at j c hc
  rcases h.row.2 with ⟨e, e2⟩ | ⟨g, cap, cur, e, _⟩
  · rw [List.eq_nil_of_length_eq_zero e2] at hc; simp at hc
  · injection e with e1 _ _
    subst e1
    have key := fun i v hv => World.ownsRow.cells (g := g) h.row rfl i v hv
    have k2 : ∀ i v, cs[i]? = some v → w.cell? ⟨g, i, none⟩ = some v := fun i v hv => by
      have := key i v hv
      rw [add_plain, Nat.zero_add] at this
      exact this
    refine ⟨g, dv, rfl, h1, ?_, k2 _ _ h3, k2 _ _ h4, k2 _ _ h5⟩
    have := k2 _ _ h2
    simpa using this
theorem FsAt.after2 {P : Nat → Prop} {w w7 w' : World} {fb K : Nat} {S : Fs} (hg : Turn P w w7) (h : FsAt (More (More P w w7) w7 w') w' fb S K) (t : Turn (More P w w7) w7 w') : FsAt (More P w w') w' fb S K ∧ Turn P w w' := by
  have s1 := hg.size
  have s2 := t.size
  refine ⟨h.mono (fun k hk hp => ?_), hg.trans t (fun k hk hp => ?_)⟩
  · unfold More at hp ⊢
    rcases hp with (hp | hp) | hp
    · exact .inl hp
    · exact .inr ⟨hp.1, hk⟩
    · exact .inr ⟨by omega, hk⟩
  · rcases hp with hp | hp
    · exact hp
    · omega
theorem BytesIn.take {P : Nat → Prop} {w : World} {a : Option Addr} {n c : Nat} {l : List UInt8} (h : BytesIn P w (.slice a n c) l) (t : Nat) (ht : t ≤ l.length) : BytesIn P w (.slice a t c) (l.take t) := by
  rcases h with ⟨hv, rfl⟩ | ⟨g, c', hv, h2, h3, h4⟩
  · injection hv with e1 e2 e3
    simp only [List.length_nil] at ht
    obtain rfl : t = 0 := by omega
    exact .inl ⟨by rw [e1, e3], rfl⟩
  · injection hv with e1 e2 e3
    refine .inr ⟨g, c', by rw [e1, e3, List.length_take, Nat.min_eq_left ht], fun i x hx => ?_, fun hl => h3 (fun e => hl (by rw [e]; simp)), by rw [List.length_take]; omega⟩
    rw [List.getElem?_take] at hx
    split at hx
    · exact h2 i x hx
    · cases hx
theorem BytesIn.cap {P : Nat → Prop} {w : World} {a : Option Addr} {n c : Nat} {l : List UInt8} (h : BytesIn P w (.slice a n c) l) : n ≤ c := by
  rcases h with ⟨hv, rfl⟩ | ⟨g, c', hv, _, _, h4⟩ <;> injection hv with e1 e2 e3 <;> omega
set_option maxRecDepth 20000 in
set_option maxHeartbeats 4000000 in
theorem crash_any {P : Nat → Prop} (fb K : Nat) (D : Doc) (n0 m0 : Int) (w : World) (hS : FsAt P w fb D.fs K) (hG : Good D) (hK : K ≤ 1000000) (b1 : -9223372036854775808 ≤ n0 ∧ n0 ≤ 9223372036854775807) (b2 : -9223372036854775808 ≤ m0 ∧ m0 ≤ 9223372036854775807) :
    Calls Try.prog 24 #[.pointer (some ⟨fb, 0, none⟩), .int .i64 n0, .int .i64 m0] w fun e w' => e = .returned (.tuple #[]) ∧ FsAt (More P w w') w' fb (crashD D n0 m0).fs (K + 2) ∧ Turn P w w' := by
  obtain ⟨pb, mb, sb, n, m, cv, cs, hM, hnK, hmK⟩ := hS
  obtain ⟨N, hN⟩ : ∃ N, N = D.l.length := ⟨_, rfl⟩
  have hmK' : m + N ≤ K := by rw [hN]; exact hmK
  have hrow := hM.row
  rw [show D.fs.l.length = N from hN.symm] at hrow
  obtain ⟨ac, cc, hcv, hcc⟩ : ∃ ac cc, cv = .slice ac N cc ∧ N ≤ cc := by
    rcases hrow.2 with ⟨h1, h2⟩ | ⟨g, cap, cur, h1, _, _, h3, _⟩
    · exact ⟨none, 0, by rw [h1, h2], by omega⟩
    · exact ⟨_, cap, h1, h3⟩
  have f0 : w.cell? ⟨fb, 0, none⟩ = some (.pointer (some ⟨pb, 0, none⟩)) := by rw [cell_blk hM.hf]; rfl
  have p0 : w.cell? ⟨pb, 0, none⟩ = some (.slice ac N cc) := by rw [cell_blk hM.hp, ← hcv]; rfl
  have p1 : w.cell? ⟨pb, 1, none⟩ = some (.map (some sb)) := by rw [cell_blk hM.hp]; rfl
  have zf : ∀ w1, Grow w w1 → w1.cell? ⟨fb, 2, none⟩ = some (.map (some mb)) ∧ w1.frozen? ⟨fb, 2, none⟩ = false := fun w1 g => by
    have hb := (Below.block g fb (lt_blk hM.hf)).trans hM.hf
    exact ⟨by rw [cell_blk hb]; rfl, froz_blk hb 2⟩
  have ZF := Lib.hid zf
  have HM := Lib.hid hM
  have CW := Lib.hid (clonef_any (P := P) sb m D.fs.was w hM.was)
  have HG := Lib.hid hG
  have HCV := Lib.hid hcv
  have HN := Lib.hid hN
  obtain ⟨k, hk⟩ : ∃ k, k = keepN n0 D.l := ⟨_, rfl⟩
  have HKN := Lib.hid hk
  have hkN : k ≤ N := by rw [hk, hN]; unfold keepN; omega
  have hkv : max 0 (min n0 (N : Int)) = (k : Int) := by rw [hk, hN]; unfold keepN; omega
  clear hM hG hcv hN hk hrow zf
  go_enter Try.func24, Try.ntmps24
  go_wp2_with fail
  refine CW.out.mono ?_
  rintro _ w1 ⟨rfl, hF1, g1⟩
  obtain ⟨q2, q3⟩ := ZF.out _ g1
  have RM := Lib.hid (HM.out.remap (g := look D.was) g1 w.heap.size hF1.out (Nat.le_refl _))
  go_wp2
  obtain ⟨W3, hW3⟩ : ∃ W3, W3 = w1.setCell ⟨fb, 2, none⟩ (.map (some w.heap.size)) := ⟨_, rfl⟩
  rw [← hW3] at RM ⊢
  obtain ⟨fs, hfs⟩ : ∃ fs : Nat → List File, fs = fun j => play D.was (D.l.take j) := ⟨_, rfl⟩
  have HFS := Lib.hid hfs
  have HL0 := Lib.hid (show ∃ n', n' ≤ m + 0 ∧ FsM (More P w W3) W3 fb pb w.heap.size sb n' m (.slice ac N cc) cs ⟨D.room, look (fs 0), look D.was, D.l⟩ from ⟨m, by omega, by rw [← HCV.out, hfs]; exact RM.out.1.mono (fun k hk h => by unfold More at h ⊢; rcases h with h | h; exact .inl h; exact .inr ⟨h.1, hk⟩)⟩)
  have HL1 := Lib.hid RM.out.2
  clear q2 q3 f0 p0 p1 hF1 g1 RM hW3 hfs CW
  go_loopw [39] (fun i wr => ∃ j : Nat, i = .int .i64 (j : Int) ∧ j ≤ k ∧ Hid (∃ n', n' ≤ m + j ∧ FsM (More P w wr) wr fb pb w.heap.size sb n' m (.slice ac N cc) cs ⟨D.room, look (fs j), look D.was, D.l⟩) ∧ Hid (Turn P w wr))
    (fun i _ => k - (intOf i).toNat)
  case atStart => exact ⟨0, rfl, by omega, HL0, HL1⟩
  case round =>
    obtain ⟨j, rfl, hj, HJ, HT⟩ := hrel
    by_cases hlt : j < k
    · obtain ⟨n', hn', hM⟩ := HJ.out
      obtain ⟨c, hc⟩ : ∃ c, D.l[j]? = some c := ⟨_, List.getElem?_eq_getElem (by rw [← HN.out]; omega)⟩
      obtain ⟨rb, dv, hac, hdv, r0, r1, r2, r3⟩ := hM.rowcell j c hc
      subst hac
      have hlt' : (j : Int) < (k : Int) := by omega
      obtain ⟨ad, cd, hds⟩ := hdv.shape
      subst hds
      obtain ⟨dl, hdl⟩ : ∃ dl, dl = c.data.length := ⟨_, rfl⟩
      rw [← hdl] at r3
      obtain ⟨W4, hW4⟩ : ∃ W4, W4 = wr.alloc (.cells #[.int .i64 (c.kind : Int), .string c.name, .int .i64 (c.at_ : Int), .slice ad dl cd] 68) := ⟨_, rfl⟩
      have g4 : Grow wr W4 := by rw [hW4]; exact (Grow.refl wr).alloc _
      have hM4 := hM.turn (Turn.of_grow (P := fun _ => False) g4) (fun _ _ h => h)
      have hOK := (HG.out.runs.upto j).2 c hc
      have hsz : c.name.size ≤ maxLen := by
        have := hOK.name
        unfold isB at this
        simp at this
        unfold maxLen
        omega
      have hfj : fs j = play D.was (D.l.take j) := by rw [HFS.out]
      have AP := applies_any (P := More P w wr) fb w.heap.size n' (look (fs j)) c (.slice ad dl cd) W4 (by rw [hfj]; exact hOK.valid) (by rw [cell_blk hM4.hf]; rfl) hM4.now (by unfold maxLen; omega) hsz (by rw [hdl]; exact hdv.turn (Turn.of_grow (P := fun _ => False) g4)) hOK.data (by rw [hfj]; exact (HG.out.runs.upto j).1.small HG.out.room)
      have AP := Lib.hid AP
      have HM4 := Lib.hid hM4
      have G4 := Lib.hid g4
      have HW4 := Lib.hid hW4
      have HFJ := Lib.hid (show doesG (look (fs j)) c = look (fs (j + 1)) from by
        rw [HFS.out]
        simp only
        rw [← look_does hOK, List.take_add_one, hc, play_append]
        rfl)
      unfold Chg.val at AP
      clear hM hdv hc hW4 g4 hM4 hOK hsz hfj hdl
      go_wp2_with fail
      rw [← HW4.out]
      refine AP.out.mono ?_
      rintro _ w5 ⟨rfl, t5, n5, hn5, hF5⟩
      have AD := HM4.out.applied t5 hF5
      rw [HFJ.out] at hF5 AD
      have AD := Lib.hid AD
      have T5 := Lib.hid t5
      clear t5 hF5 r0 r1 r2 r3
      go_wp2
      go_roundw
      case rel =>
        refine ⟨j + 1, by go_num, by omega, Lib.hid ⟨n5, by omega, AD.out.mono (fun q hq h => ?_)⟩, Lib.hid (HT.out.trans ((Turn.of_grow (P := fun k => k = w.heap.size) G4.out).same T5.out) (fun q hq e => by omega))⟩
        have s1 := HT.out.size
        have s2 := Grow.size G4.out
        have s3 := T5.out.size
        unfold More at h ⊢
        rcases h with (h | h) | h
        · exact .inl h
        · exact .inr ⟨h.1, by omega⟩
        · exact .inr ⟨by omega, hq⟩
      case measure => simp [intOf]; omega
    · have hj9 : j = k := by omega
      subst hj9
      have hlt' : ¬ (j : Int) < (j : Int) := by omega
      by_cases hjN : j < N
      · obtain ⟨n', hn', hM⟩ := HJ.out
        obtain ⟨c, hc⟩ : ∃ c, D.l[j]? = some c := ⟨_, List.getElem?_eq_getElem (by rw [← HN.out]; omega)⟩
        obtain ⟨rb, dv, hac, hdv, r0, r1, r2, r3⟩ := hM.rowcell j c hc
        subst hac
        have hjN' : (j : Int) < (N : Int) := by omega
        have hfj : fs j = play D.was (D.l.take j) := by rw [HFS.out]
        obtain ⟨ad, cd, hds⟩ := hdv.shape
        subst hds
        obtain ⟨dl, hdl⟩ : ∃ dl, dl = c.data.length := ⟨_, rfl⟩
        rw [← hdl] at r3 hdv
        by_cases hk1 : c.kind = 1
        · have hOK := torn_ok ((HG.out.runs.upto j).2 c hc) m0 hk1
          have HEND := Lib.hid (show (crashD D n0 m0).fs = ⟨D.room, look (doesL (fs j) (tornC m0 c)), look (doesL (fs j) (tornC m0 c)), []⟩ from by
            unfold crashD crashL Doc.fs
            rw [← HKN.out, hc]
            simp only [hk1, if_true]
            rw [hfj])
          obtain ⟨t, ht⟩ : ∃ t, t = (max 0 (min m0 (c.data.length : Int))).toNat := ⟨_, rfl⟩
          have htv : max 0 (min m0 (dl : Int)) = (t : Int) := by rw [ht, hdl]; omega
          have htl : t ≤ dl := by rw [ht, hdl]; omega
          have htc : t ≤ cd := by have := hdv.cap; omega
          have hdt : (tornC m0 c).data = c.data.take t := by rw [ht]; rfl
          obtain ⟨W4, hW4⟩ : ∃ W4, W4 = wr.alloc (.cells #[.int .i64 1, .string c.name, .int .i64 (c.at_ : Int), .slice ad t cd] 68) := ⟨_, rfl⟩
          have g4 : Grow wr W4 := by rw [hW4]; exact (Grow.refl wr).alloc _
          have hM4 := hM.turn (Turn.of_grow (P := fun _ => False) g4) (fun _ _ h => h)
          have hsz : c.name.size ≤ maxLen := by
            have := hOK.name
            simp only [tornC] at this
            unfold isB at this
            simp at this
            unfold maxLen
            omega
          have AP := applies_any (P := More P w wr) fb w.heap.size n' (look (fs j)) (tornC m0 c) (.slice ad t cd) W4 (by rw [hfj]; exact hOK.valid) (by rw [cell_blk hM4.hf]; rfl) hM4.now (by unfold maxLen; omega) hsz (by rw [hdt]; exact (hdv.turn (Turn.of_grow (P := fun _ => False) g4)).take t (by omega)) hOK.data (by rw [hfj]; exact (HG.out.runs.upto j).1.small HG.out.room)
          have HFJ := Lib.hid (show doesG (look (fs j)) (tornC m0 c) = look (doesL (fs j) (tornC m0 c)) from by rw [hfj]; exact (look_does hOK).symm)
          unfold Chg.val at AP
          rw [show (tornC m0 c).kind = 1 from hk1, show (tornC m0 c).name = c.name from rfl, show (tornC m0 c).at_ = c.at_ from rfl] at AP
          have AP := Lib.hid AP
          rw [hk1] at r0
          have HM4 := Lib.hid hM4
          have G4 := Lib.hid g4
          have HW4 := Lib.hid hW4
          clear hM hdv hc hW4 g4 hM4 hOK hsz hfj hdl ht hdt hk1
          go_wp2_with fail
          rw [← HW4.out]
          refine AP.out.mono ?_
          rintro _ w5 ⟨rfl, t5, n5, hn5, hF5⟩
          have AD := HM4.out.applied t5 hF5
          rw [HFJ.out] at hF5 AD
          have HTT := Lib.hid (HT.out.trans ((Turn.of_grow (P := fun k => k = w.heap.size) G4.out).same t5) (fun q hq e => by omega))
          have AD2 : FsAt (More P w w5) w5 fb ⟨D.room, look (doesL (fs j) (tornC m0 c)), look D.was, D.l⟩ (K + 1) := ⟨pb, w.heap.size, sb, n5, m, _, cs, AD.mono (fun q hq h => by
            have s1 := HT.out.size
            have s2 := Grow.size G4.out
            have s3 := t5.size
            unfold More at h ⊢
            rcases h with (h | h) | h
            · exact .inl h
            · exact .inr ⟨h.1, by omega⟩
            · exact .inr ⟨by omega, hq⟩), by omega, by have := HN.out; simp only; omega⟩
          have SY := Lib.hid (sync_any (P := More P w w5) fb (K + 1) _ w5 AD2)
          clear t5 hF5 r0 r1 r2 r3 AD AD2
          go_wp2_with fail
          refine SY.out.mono ?_
          rintro _ w9 ⟨rfl, hF9, t9⟩
          have FIN := Lib.hid (FsAt.after2 HTT.out hF9 t9)
          clear hF9 t9
          go_wp2
          go_end0
          rw [HEND.out]
          exact ⟨rfl, FIN.out.1, FIN.out.2⟩
        · have HEND := Lib.hid (show (crashD D n0 m0).fs = ⟨D.room, look (fs j), look (fs j), []⟩ from by
            unfold crashD crashL Doc.fs
            rw [← HKN.out, hc]
            simp only [hk1, if_false]
            rw [hfj])
          have hk1' : ¬ ((c.kind : Int) = 1) := by omega
          have hk2 : ((c.kind : Int) == 1) = false := by simp; omega
          have AD2 : FsAt (More P w wr) wr fb ⟨D.room, look (fs j), look D.was, D.l⟩ (K + 1) := ⟨pb, w.heap.size, sb, n', m, _, cs, hM, by omega, by have := HN.out; simp only; omega⟩
          have SY := Lib.hid (sync_any (P := More P w wr) fb (K + 1) _ wr AD2)
          have HTT := Lib.hid HT.out
          clear hM hdv hc hfj hdl hk1 hk1' AD2
          go_wp2_with fail
          refine SY.out.mono ?_
          rintro _ w9 ⟨rfl, hF9, t9⟩
          have FIN := Lib.hid (FsAt.after2 HTT.out hF9 t9)
          clear hF9 t9
          go_wp2
          go_end0
          rw [HEND.out]
          exact ⟨rfl, FIN.out.1, FIN.out.2⟩
      · have HEND := Lib.hid (show (crashD D n0 m0).fs = ⟨D.room, look (fs j), look (fs j), []⟩ from by
          unfold crashD crashL Doc.fs
          rw [← HKN.out, List.getElem?_eq_none (by have := HN.out; omega), HFS.out])
        have hjN' : ¬ (j : Int) < (N : Int) := by omega
        obtain ⟨n', hn', hM⟩ := HJ.out
        have AD2 : FsAt (More P w wr) wr fb ⟨D.room, look (fs j), look D.was, D.l⟩ (K + 1) := ⟨pb, w.heap.size, sb, n', m, _, cs, hM, by omega, by have := HN.out; simp only; omega⟩
        have SY := Lib.hid (sync_any (P := More P w wr) fb (K + 1) _ wr AD2)
        have HTT := Lib.hid HT.out
        clear hM AD2
        go_wp2_with fail
        refine SY.out.mono ?_
        rintro _ w9 ⟨rfl, hF9, t9⟩
        have FIN := Lib.hid (FsAt.after2 HTT.out hF9 t9)
        clear hF9 t9
        go_wp2
        go_end0
        rw [HEND.out]
        exact ⟨rfl, FIN.out.1, FIN.out.2⟩
end Go.Proofs.Yticpldjcmhpjoaa
