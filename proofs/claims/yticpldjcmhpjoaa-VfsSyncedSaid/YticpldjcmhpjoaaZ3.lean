/-
  The walk of alike: both FS's in one state tell the same.
-/
import Derived.Test.YticpldjcmhpjoaaZ2
import Derived.Test.YticpldjcmhpjoaaQo

namespace Go.Proofs.Yticpldjcmhpjoaa
open Go.RowKit
set_option linter.unusedVariables false
set_option linter.unusedSimpArgs false

variable {w0 w1 w wz : World} {R : Nat → Prop} {fb xb s t : Nat} {D E : Doc}
/-- the joint state, in a world that only grew since wz -/
structure Jg (w0 w1 wz : World) (R : Nat → Prop) (fb xb s t : Nat) (D E : Doc) (W : World) : Prop where
  js : JS w0 w1 R W fb xb s t D E
  gr : Grow wz W
theorem Jg.next {W W' : World} (h : Jg w0 w1 wz R fb xb s t D E W) (hj : JS w0 w1 R W' fb xb s t D E) (g : Grow W W') : Jg w0 w1 wz R fb xb s t D E W' := ⟨hj, h.gr.trans2 g⟩
theorem js_list (h : JS w0 w1 R w fb xb s t D D) (ht : t ≤ 90000) : Calls Try.prog 27 #[.pointer (some ⟨fb, 0, none⟩)] w fun e w' => ListP w.heap.size w (sortN D.now) e w' ∧ JS w0 w1 R w' fb xb s t D D := by
  have h9 := h
  have hl := h.lens
  obtain ⟨P, Q, K, h, k1, k2⟩ := h
  exact (list_any fb K D w h.fs h.gd.runs.last.nodup (by omega)).mono fun e w' ⟨v, h1, h2, h3⟩ => ⟨⟨v, h1, h2, h3⟩, h9.grow h3⟩
theorem js_xlist (h : JS w0 w1 R w fb xb s t D E) (ht : t ≤ 90000) : Calls Try.prog 41 #[.pointer (some ⟨xb, 0, none⟩)] w fun e w' => ListP w.heap.size w (sortN E.now) e w' ∧ JS w0 w1 R w' fb xb s t D E := by
  have h9 := h
  have hl := h.lens
  obtain ⟨P, Q, K, h, k1, k2⟩ := h
  exact (xlist_any xb E w h.xs (by omega)).mono fun e w' ⟨v, h1, h2, h3⟩ => ⟨⟨v, h1, h2, h3⟩, h9.grow h3⟩
theorem js_pending (h : JS w0 w1 R w fb xb s t D E) : Calls Try.prog 28 #[.pointer (some ⟨fb, 0, none⟩)] w fun e w' => e = .returned (.int .i64 (D.l.length : Int)) ∧ JS w0 w1 R w' fb xb s t D E ∧ Grow w w' := by
  have h9 := h
  obtain ⟨P, Q, K, h, k1, k2⟩ := h
  exact h9.reads (pending_any fb K D w h.fs)
theorem sortN_len (fs : List File) : (sortN fs).length = fs.length := by
  unfold sortN
  rw [List.length_mergeSort, List.length_map]
/-- a name on the list is a file's -/
theorem sortN_file {room : Nat} {fs : List File} (h : OkF room fs) (hr : room ≤ 1073741824) {j : Nat} {x : List UInt8} (hx : (sortN fs)[j]? = some x) :
    ∃ b, look fs ⟨⟨x⟩⟩ = some b ∧ isB ⟨⟨x⟩⟩ = true ∧ b.length ≤ 1073741824 := by
  have hm := List.mem_of_getElem? hx
  unfold sortN at hm
  rw [List.mem_mergeSort, List.mem_map] at hm
  obtain ⟨p, hp, rfl⟩ := hm
  have h1 := mem_look h.nodup hp
  have h2 := h.name p hp
  exact ⟨p.2, h1, h2, h.small hr _ _ h1⟩
theorem row_cell {B : Nat} {W : World} {v : Value} {n : Nat} {ss : List (List UInt8)} (h : W.ownsRow B 9 1 v n (ss.map encStr)) (h0 : 0 < n) : ∃ g c, v = .slice (some ⟨g, 0, none⟩) n c ∧ n ≤ c ∧ ∀ j x, ss[j]? = some x → W.cell? ⟨g, j, none⟩ = some (.string ⟨⟨x⟩⟩) := by
  have h9 := h
  rcases h.2 with ⟨_, h1⟩ | ⟨g, cap, cur, h1, _, _, h4, _⟩
  · omega
  · refine ⟨g, cap, h1, h4, fun j x hx => ?_⟩
    subst h1
    have := World.ownsRow.cells (g := g) h9 rfl j (encStr x) (by rw [List.getElem?_map, hx]; rfl)
    rw [add_plain, Nat.zero_add] at this
    exact this
set_option maxRecDepth 20000 in
set_option maxHeartbeats 4000000 in
theorem alike_any (h : JS w0 w1 R w fb xb s t D D) (ht : t ≤ 80000) : Calls Try.prog 21 #[.pointer (some ⟨fb, 0, none⟩), .pointer (some ⟨xb, 0, none⟩)] w fun e w' => e = .returned (.bool true) ∧ JS w0 w1 R w' fb xb s t D D := by
  have LI := Lib.hid (js_list h (by omega))
  have HJ := Lib.hid h
  obtain ⟨ss, hss⟩ : ∃ ss, ss = sortN D.now := ⟨_, rfl⟩
  have hok := h.good.1.runs.last
  have hroom := h.good.1.room
  have hlen : ss.length ≤ 80000 := by rw [hss, sortN_len]; have := h.lens; omega
  have HSF := Lib.hid (show ∀ j x, ss[j]? = some x → ∃ b, look D.now ⟨⟨x⟩⟩ = some b ∧ isB ⟨⟨x⟩⟩ = true ∧ b.length ≤ 1073741824 from fun j x hx => sortN_file hok hroom (by rw [← hss]; exact hx))
  have XL := Lib.hid (fun (W : World) (hW : JS w0 w1 R W fb xb s t D D) => js_xlist hW (by omega))
  rw [← hss] at LI XL
  obtain ⟨n, hn⟩ : ∃ n, n = ss.length := ⟨_, rfl⟩
  unfold ListP at LI XL
  rw [← hn] at LI XL hlen
  have HN := Lib.hid hn
  obtain ⟨us, hus⟩ : ∃ us : Int, us = (sumL D.now : Int) := ⟨_, rfl⟩
  obtain ⟨pe, hpe⟩ : ∃ pe : Int, pe = (D.l.length : Int) := ⟨_, rfl⟩
  have UF := Lib.hid (fun (W : World) (hW : JS w0 w1 R W fb xb s t D D) => js_used hW)
  have UX := Lib.hid (fun (W : World) (hW : JS w0 w1 R W fb xb s t D D) => js_xused hW (by omega))
  have PF := Lib.hid (fun (W : World) (hW : JS w0 w1 R W fb xb s t D D) => js_pending hW)
  have PX := Lib.hid (fun (W : World) (hW : JS w0 w1 R W fb xb s t D D) => js_xpending hW)
  rw [← hus] at UF UX
  rw [← hpe] at PF PX
  clear hss hok hroom hn hus hpe h
  go_enter Try.func21, Try.ntmps21
  go_wp2_with fail
  refine LI.out.mono ?_
  rintro _ w2 ⟨⟨va, rfl, oa, g2⟩, j2⟩
  have OA := Lib.hid oa
  have J2 := Lib.hid j2
  obtain ⟨aa, ca, hva⟩ : ∃ a c, va = .slice a n c := by
    rcases own_form oa with ⟨h1, h0⟩ | ⟨g, cap, h0⟩
    · exact ⟨none, 0, by rw [h1, h0]⟩
    · exact ⟨_, _, h0⟩
  subst hva
  clear oa j2 g2
  go_wp2_with fail
  refine (XL.out _ J2.out).mono ?_
  rintro _ w3 ⟨⟨vb, rfl, ob, g3⟩, j3⟩
  have OB := Lib.hid ob
  have J3 := Lib.hid j3
  have OA3 := Lib.hid (own_grow OA.out g3)
  obtain ⟨ab, cb, hvb⟩ : ∃ a c, vb = .slice a n c := by
    rcases own_form ob with ⟨h1, h0⟩ | ⟨g, cap, h0⟩
    · exact ⟨none, 0, by rw [h1, h0]⟩
    · exact ⟨_, _, h0⟩
  subst hvb
  clear ob j3 g3 OA
  go_wp2_with fail
  refine (UF.out _ J3.out).mono ?_
  rintro _ w4 ⟨rfl, j4, g4⟩
  have J4 := Lib.hid j4
  have G4 := Lib.hid g4
  clear j4 g4
  go_wp2_with fail
  refine (UX.out _ J4.out).mono ?_
  rintro _ w5 ⟨rfl, j5, g5⟩
  have J5 := Lib.hid j5
  have G5 := Lib.hid (G4.out.trans2 g5)
  clear j5 g5
  go_wp2_with fail
  refine (PF.out _ J5.out).mono ?_
  rintro _ w6 ⟨rfl, j6, g6⟩
  have J6 := Lib.hid j6
  have G6 := Lib.hid (G5.out.trans2 g6)
  clear j6 g6
  go_wp2_with fail
  refine (PX.out _ J6.out).mono ?_
  rintro _ w7 ⟨rfl, j7, g7⟩
  have J0 := Lib.hid (show Jg w0 w1 w3 R fb xb s t D D w7 from ⟨j7, G6.out.trans2 g7⟩)
  clear j7 g7 J2 J4 J5 J6 G4 G5 G6
  go_wp2
  go_loopw [7] (fun i wr => ∃ j : Nat, j ≤ n ∧ i = .int .i64 (j : Int) ∧ Hid (Jg w0 w1 w3 R fb xb s t D D wr)) (fun i _ => n - (intOf i).toNat)
  case atStart => exact ⟨0, by omega, rfl, J0⟩
  case round =>
    obtain ⟨j, hj, rfl, HR⟩ := hrel
    by_cases hlt : j < n
    · have k1 : (j : Int) < (n : Int) := by omega
      obtain ⟨x, hx⟩ : ∃ x, ss[j]? = some x := ⟨_, List.getElem?_eq_getElem (by rw [← HN.out]; exact hlt)⟩
      obtain ⟨ga, ca', ea, hca, cella⟩ := row_cell OA3.out (by omega)
      obtain ⟨gb, cb', eb, hcb, cellb⟩ := row_cell OB.out (by omega)
      injection ea with ea _ ea2
      injection eb with eb _ eb2
      subst ea ea2 eb eb2
      obtain ⟨b, hb, hbn, hbl⟩ := HSF.out j x hx
      obtain ⟨nm, hnm⟩ : ∃ nm : ByteArray, nm = ⟨⟨x⟩⟩ := ⟨_, rfl⟩
      have a0 := cella j x hx
      have b0 := cellb j x hx
      rw [← hnm] at a0 b0 hb hbn
      have CE := Lib.hid (show ∀ W, Jg w0 w1 w3 R fb xb s t D D W → W.cell? ⟨ga, j, none⟩ = some (.string nm) ∧ W.cell? ⟨gb, j, none⟩ = some (.string nm) from fun W hW =>
        ⟨(Below.cell hW.gr (lt_of_cell a0)).trans a0, (Below.cell hW.gr (lt_of_cell b0)).trans b0⟩)
      have hfd : findD D nm = (b, 0) := by unfold findD; rw [hbn, hb]; rfl
      have hrd : readD D nm 0 (b.length : Int) = (b, 0) := by
        unfold readD
        rw [hfd]
        simp [readL]
      obtain ⟨bl, hbl2⟩ : ∃ bl, bl = b.length := ⟨_, rfl⟩
      have SZ := Lib.hid (show ∀ W, Jg w0 w1 w3 R fb xb s t D D W → Calls Try.prog 25 #[.pointer (some ⟨fb, 0, none⟩), .string nm] W fun e w' => e = .returned (.tuple #[.int .i64 (bl : Int), .int .i64 0]) ∧ Jg w0 w1 w3 R fb xb s t D D w' from fun W hW => by
        have := js_size hW.js nm
        rw [hfd, ← hbl2] at this
        exact this.mono fun e w' h => ⟨h.1, hW.next h.2.1 h.2.2⟩)
      have SX := Lib.hid (show ∀ W, Jg w0 w1 w3 R fb xb s t D D W → Calls Try.prog 40 #[.pointer (some ⟨xb, 0, none⟩), .string nm] W fun e w' => e = .returned (.tuple #[.int .i64 (bl : Int), .int .i64 0]) ∧ Jg w0 w1 w3 R fb xb s t D D w' from fun W hW => by
        have := js_xsize hW.js (by omega) nm
        rw [hfd, ← hbl2] at this
        exact this.mono fun e w' h => ⟨h.1, hW.next h.2.1 h.2.2⟩)
      have RF := Lib.hid (show ∀ W, Jg w0 w1 w3 R fb xb s t D D W → Calls Try.prog 14 #[.pointer (some ⟨fb, 0, none⟩), .string nm, .int .i64 0, .int .i64 (bl : Int)] W fun e w' => ∃ u, e = .returned (.tuple #[u, .int .i64 0]) ∧ Hid (HoldsAt w' u b) ∧ Jg w0 w1 w3 R fb xb s t D D w' from fun W hW => by
        have := js_read hW.js nm 0 (bl : Int) (by omega) (by omega)
        rw [hbl2, hrd, ← hbl2] at this
        exact this.mono fun e w' ⟨⟨u, h1, h2⟩, h3, h4⟩ => ⟨u, h1, Lib.hid h2.at, hW.next h3 h4⟩)
      have RX := Lib.hid (show ∀ W, Jg w0 w1 w3 R fb xb s t D D W → Calls Try.prog 39 #[.pointer (some ⟨xb, 0, none⟩), .string nm, .int .i64 0, .int .i64 (bl : Int)] W fun e w' => ∃ u, e = .returned (.tuple #[u, .int .i64 0]) ∧ Hid (HoldsAt w' u b) ∧ Jg w0 w1 w3 R fb xb s t D D w' ∧ Grow W w' from fun W hW => by
        have := js_xread hW.js (by omega) nm 0 (bl : Int) (by omega) (by omega)
        rw [hbl2, hrd, ← hbl2] at this
        exact this.mono fun e w' ⟨⟨u, h1, h2⟩, h3, h4⟩ => ⟨u, h1, Lib.hid h2.at, hW.next h3 h4, h4⟩)
      have HBL := Lib.hid hbl
      clear hx cella cellb a0 b0 hb hbn hfd hrd hbl2 hnm hbl
      obtain ⟨p0, p1⟩ := CE.out _ HR.out
      go_wp2_with fail
      refine (SZ.out _ HR.out).mono ?_
      rintro _ v1 ⟨rfl, q1⟩
      have Q1 := Lib.hid q1
      obtain ⟨p2, p3⟩ := CE.out _ q1
      clear q1 p0 p1
      go_wp2_with fail
      refine (SX.out _ Q1.out).mono ?_
      rintro _ v2 ⟨rfl, q2⟩
      have Q2 := Lib.hid q2
      obtain ⟨p0, p1⟩ := CE.out _ q2
      clear q2 p2 p3
      go_wp2_with fail
      refine (RF.out _ Q2.out).mono ?_
      rintro _ v3 ⟨u3, rfl, h3, q3⟩
      have Q3 := Lib.hid q3
      obtain ⟨p2, p3⟩ := CE.out _ q3
      clear q3 p0 p1
      go_wp2_with fail
      refine (RX.out _ Q3.out).mono ?_
      rintro _ v4 ⟨u4, rfl, h4, q4, g4⟩
      have SM := Lib.hid (show ∀ W, Jg w0 w1 w3 R fb xb s t D D W → Grow v4 W → Calls Try.prog 15 #[u3, u4] W fun e w' => e = .returned (.bool true) ∧ Jg w0 w1 w3 R fb xb s t D D w' ∧ Grow v4 w' from fun W hW hg => by
        have := same_any u3 u4 b b W ((h3.out.grow g4).grow hg) (h4.out.grow hg) HBL.out HBL.out
        rw [show decide (b = b) = true from by simp] at this
        exact this.mono fun e w' h => ⟨h.1, hW.next (hW.js.grow h.2) h.2, hg.trans2 h.2⟩)
      have QD : Jg w0 w1 w3 R fb xb s t D D v4.drew := q4.next (q4.js.grow (Grow.refl _).drew) (Grow.refl _).drew
      have GD : Grow v4 v4.drew := (Grow.refl _).drew
      clear h3 h4 q4 g4 p2 p3 RF RX SZ SX
      go_wp2
      go_region_held3 (fun W => W.cell? ⟨ga, j, none⟩ = some (.string nm) ∧ W.cell? ⟨gb, j, none⟩ = some (.string nm)) (exact CE.out _ (by assumption))
        ((go_at_call 15; refine (SM.out _ (by assumption) (by assumption)).mono ?_; rintro _ v5 ⟨rfl, q5, g5⟩))
      all_goals
        have Q5 := Lib.hid q5
        clear q5 g5 QD GD
        go_wp2
        go_roundw
        case rel => exact ⟨j + 1, by omega, by go_num, Q5⟩
        case measure => simp [intOf]; omega
    · have k1 : ¬ (j : Int) < (n : Int) := by omega
      obtain rfl : n = j := by omega
      go_wp2
      go_ret
      exact ⟨rfl, HR.out.js⟩
end Go.Proofs.Yticpldjcmhpjoaa
