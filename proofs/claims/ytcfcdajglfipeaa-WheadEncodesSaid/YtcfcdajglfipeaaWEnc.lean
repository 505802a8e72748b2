/-
  The walk of whead.Encode.
-/
import Derived.Test.YtcfcdajglfipeaaREnc
namespace Go.Proofs.Ytcfcdajglfipeaa
open Go.RowKit

theorem wenc_not (g x : Int) (ao : Option Addr) (n c : Nat) (l : List (Int × Int)) (w : World) (h : Hd w ao n c l) (hm : ¬ May g x l) :
    Calls Try.prog 10 #[.agg #[.int .i64 g, .int .i64 x, .slice ao n c]] w fun e w' => e = .returned (.tuple #[.slice none 0 0, .int .i64 1]) ∧ Below w.heap.size w w' := by
  have CH := Lib.hid (check_not h hm)
  clear h hm
  go_enter Try.func10, Try.ntmps10
  go_wp2_with fail
  refine (CH.out _ ((Grow.refl w).alloc _)).mono ?_
  rintro e w1 ⟨rfl, b1⟩
  go_wp2
  refine bodyPost_ret (v := .tuple #[.slice none 0 0, .int .i64 1]) (by simp [results, Try.results10, go_sem]) rfl ?_
  exact ⟨rfl, ((Below.refl _ _).alloc (Nat.le_refl _) _).trans (b1.mono (by simp))⟩

theorem Grew.grow {W0 w w' : World} {v v' : Value} {m m' : Nat} {xs xs' : List Value} (h : Grew W0.heap.size w v m' xs' v' w') (ho : w.ownsRow W0.heap.size 5 1 v m xs) (hg : Grow W0 w) : Grow W0 w' :=
  Below.grown hg h.2.1 hg.size (fun q hq => (ho.lt q hq).1)

set_option maxHeartbeats 4000000 in
theorem wenc_yes (g x : Int) (b o n c : Nat) (l : List (Int × Int)) (w : World) (h : Hd w (some ⟨b, o, none⟩) n c l) (hm : May g x l) :
    Calls Try.prog 10 #[.agg #[.int .i64 g, .int .i64 x, .slice (some ⟨b, o, none⟩) n c]] w fun e w' => ∃ gg cc, e = .returned (.tuple #[.slice (some ⟨gg, 0, none⟩) (16 + 12 * n) cc, .int .i64 0]) ∧
      w'.ownsRow w.heap.size 5 1 (.slice (some ⟨gg, 0, none⟩) (16 + 12 * n) cc) (16 + 12 * n) (hdB g x l) ∧ Below w.heap.size w w' := by
  have CH := Lib.hid (check_yes h hm)
  have SP : ∀ W, Grow w W → Calls Try.prog 15 #[.agg #[.int .i64 g, .int .i64 x, .slice (some ⟨b, o, none⟩) n c]] W fun e w' => e = .returned (.int .i64 ((last_ l).1 * (last_ l).2)) ∧ Below W.heap.size W w' := fun W hG => span_yes g x b o n c l W (h.grow hG) hm
  have OF : ∀ (k : Nat) (W : World), k < n → Grow w W → Calls Try.prog 7 #[.agg #[.int .i64 g, .int .i64 x, .slice (some ⟨b, o, none⟩) n c], .int .i64 k] W fun e w' => e = .returned (.int .i64 (offTo l k)) ∧ Below W.heap.size W w' := fun k W hk hG => offset_yes g x b o n c k l W (h.grow hG) hm hk
  have HSP := Lib.hid SP
  have HOF := Lib.hid OF
  obtain ⟨n1, n8⟩ := h.ear hm
  obtain ⟨b', o', e, ha⟩ := h.2.2.2 (by omega)
  injection e with e
  injection e with e1 e2 _
  subst e1 e2
  have hb := ha.1
  have HA := Lib.hid ha
  have HN := Lib.hid h.1
  have HM := Lib.hid hm
  have HNS0 := Lib.hid (show nsTo g x l 0 = [g, (last_ l).1 * (last_ l).2, x, n] from by rw [nsTo, ns0, h.1])
  have HU0 := Lib.hid (nsTo_in hm 0 (by omega))
  clear h hm ha SP OF
  obtain ⟨L, hL⟩ : ∃ L, L = (last_ l).1 * (last_ l).2 := ⟨_, rfl⟩
  rw [← hL] at HSP HNS0
  clear hL
  go_enter Try.func10, Try.ntmps10
  go_wp2_with fail
  refine (CH.out _ ((Grow.refl w).alloc _)).mono ?_
  rintro e w1 ⟨rfl, b1⟩
  have q0 : w1.cell? ⟨w.heap.size, 0, none⟩ = some (.int .i64 g) := (b1.cell (p := ⟨w.heap.size, 0, none⟩) (by simp)).trans (by simp [go_sem])
  have q1 : w1.cell? ⟨w.heap.size, 1, none⟩ = some (.int .i64 x) := (b1.cell (p := ⟨w.heap.size, 1, none⟩) (by simp)).trans (by simp [go_sem])
  have q2 : w1.cell? ⟨w.heap.size, 2, none⟩ = some (.slice (some ⟨b, o, none⟩) n c) := (b1.cell (p := ⟨w.heap.size, 2, none⟩) (by simp)).trans (by simp [go_sem])
  have g1 : Grow w w1 := ((Grow.refl w).alloc _).trans b1
  have hs1 : w.heap.size + 1 ≤ w1.heap.size := by have := b1.size; simp at this; omega
  clear b1 CH
  go_wp2
  go_region_held3 (fun W => Grow w1 W ∧ W.cell? ⟨w.heap.size, 0, none⟩ = some (.int .i64 g) ∧ W.cell? ⟨w.heap.size, 1, none⟩ = some (.int .i64 x) ∧ W.cell? ⟨w.heap.size, 2, none⟩ = some (.slice (some ⟨b, o, none⟩) n c))
    (first
      | exact ⟨(Grow.refl _).drew, q0, q1, q2⟩
      | exact ⟨(Grow.refl _).drew.trans b2, (Below.cell ((Grow.refl _).drew.trans b2) (p := ⟨w.heap.size, 0, none⟩) hs1).trans q0, (Below.cell ((Grow.refl _).drew.trans b2) (p := ⟨w.heap.size, 1, none⟩) hs1).trans q1, (Below.cell ((Grow.refl _).drew.trans b2) (p := ⟨w.heap.size, 2, none⟩) hs1).trans q2⟩
      | exact ⟨((Grow.refl _).drew.trans b2).alloc _, (Below.cell (((Grow.refl _).drew.trans b2).alloc _) (p := ⟨w.heap.size, 0, none⟩) hs1).trans q0, (Below.cell (((Grow.refl _).drew.trans b2).alloc _) (p := ⟨w.heap.size, 1, none⟩) hs1).trans q1, (Below.cell (((Grow.refl _).drew.trans b2).alloc _) (p := ⟨w.heap.size, 2, none⟩) hs1).trans q2⟩)
    ((go_at_call 15; refine (HSP.out _ g1.drew).mono ?_; rintro e w2 ⟨rfl, b2⟩))
  obtain ⟨W3, hW⟩ : ∃ W3, W3 = w2.alloc (.cells #[.int .i64 g, .int .i64 L, .int .i64 x, .int .i64 (n : Int)] 3) := ⟨_, rfl⟩
  have g2 : Grow w1 W3 := by rw [hW]; exact ((Grow.refl _).drew.trans b2).alloc _
  have hs3 : w2.heap.size < W3.heap.size := by rw [hW]; simp
  have hcell : ∀ j, j < 4 → W3.cell? ⟨w2.heap.size, j, none⟩ = some (.int .i64 (nth (nsTo g x l 0) j)) := fun j hj => by
    rw [hW, HNS0.out]
    match j, hj with
    | 0, _ => simp [go_sem, nth]
    | 1, _ => simp [go_sem, nth]
    | 2, _ => simp [go_sem, nth]
    | 3, _ => simp [go_sem, nth]
  have hlen0 : (nsTo g x l 0).length = 4 := nsTo_length g x l 0
  have hs5 : w1.heap.size ≤ W3.heap.size := g2.size
  have p2 := (Below.cell g2 (p := ⟨w.heap.size, 2, none⟩) hs1).trans q2
  have p0 := (Below.cell g2 (p := ⟨w.heap.size, 0, none⟩) hs1).trans q0
  have p1 := (Below.cell g2 (p := ⟨w.heap.size, 1, none⟩) hs1).trans q1
  have g3 : Grow w W3 := g1.trans g2
  have HC := Lib.hid hcell
  have HL := Lib.hid hlen0
  have S0 : Hid (W3.ownsRow W3.heap.size 5 1 (.slice none 0 0) (4 * 0) (bytesOf ((nsTo g x l 0).take 0))) := World.ownsRow_nil _ _ _ _
  rename_i hHeld
  clear hHeld HNS0 HSP hcell hlen0 q0 q1 q2 g1 g2
  rw [← hW]
  clear hW
  go_wp2
  go_loopw [5, 28] (fun t i wz => ∃ j : Nat, j ≤ 4 ∧ i = .int .i64 j ∧ Hid (wz.ownsRow W3.heap.size 5 1 t (4 * j) (bytesOf ((nsTo g x l 0).take j))) ∧ Grow W3 wz) (fun _ i _ => 4 - (intOf i).toNat)
  case atStart => exact ⟨0, by omega, rfl, S0, Grow.refl _⟩
  case round =>
    clear S0
    obtain ⟨j, hj, rfl, HZ, hgz⟩ := hrel
    by_cases hjl : j < 4
    · have cj := (Below.cell hgz (p := ⟨w2.heap.size, j, none⟩) hs3).trans (HC.out j hjl)
      have tk := bytes_take (ns := nsTo g x l 0) (k := j) (by rw [HL.out]; exact hjl)
      obtain ⟨u1, u2⟩ := HU0.out _ (nth_mem (ns := nsTo g x l 0) (k := j) (by rw [HL.out]; exact hjl))
      obtain ⟨N, hN⟩ : ∃ N, N = nth (nsTo g x l 0) j := ⟨_, rfl⟩
      rw [← hN] at cj tk u1 u2
      have TK := Lib.hid tk
      clear hN tk
      have NA : ∀ v, Hid (wr.ownsRow W3.heap.size 5 1 v (4 * j) (bytesOf ((nsTo g x l 0).take j))) → Calls Try.prog 22 #[v, .int .i64 N] wr fun e w' => ∃ v', e = .returned v' ∧ Hid (w'.ownsRow W3.heap.size 5 1 v' (4 * (j + 1)) (bytesOf ((nsTo g x l 0).take (j + 1)))) ∧ Grow W3 w' := fun v hv =>
        (number_any N u1 u2 W3.heap.size v (4 * j) _ wr (by omega) hgz.size hv.out).mono fun e w' ⟨v', he, hgr⟩ => ⟨v', he, by rw [TK.out]; exact hgr.1, Below.grown hgz hgr.2.1 hgz.size (fun q hq => (hv.out.lt q hq).1)⟩
      have HNA := Lib.hid NA
      clear NA
      go_wp2_with fail
      refine (HNA.out _ HZ).mono ?_
      rintro e w4 ⟨v4, rfl, h4, g4⟩
      clear HZ HNA
      go_wp2
      go_roundw
      case rel => exact ⟨j + 1, by omega, by go_num, h4, g4⟩
      case measure => simp [intOf]; omega
    · obtain rfl : j = 4 := by omega
      obtain ⟨WA, hWA⟩ : ∃ WA, WA = wr := ⟨_, rfl⟩
      subst hWA
      have r2 := (Below.cell hgz (p := ⟨w.heap.size, 2, none⟩) (by simp; omega)).trans p2
      have S1 : Hid (WA.ownsRow W3.heap.size 5 1 u5 (4 * (4 + 3 * 0)) (bytesOf (nsTo g x l 0))) := by
        have := HZ.out
        rw [List.take_of_length_le (by rw [HL.out]; omega)] at this
        exact this
      have GZ := Lib.hid hgz
      clear HZ HC HU0 HL hgz
      go_wp2
      go_loopw [5, 39] (fun t i wz => ∃ k : Nat, k ≤ n ∧ i = .int .i64 k ∧ Hid (wz.ownsRow W3.heap.size 5 1 t (4 * (4 + 3 * k)) (bytesOf (nsTo g x l k))) ∧ Grow W3 wz) (fun _ i _ => n - (intOf i).toNat)
      case atStart => exact ⟨0, by omega, rfl, S1, GZ.out⟩
      case round =>
        clear S1 GZ
        obtain ⟨k, hk, rfl, HZ, hgz⟩ := hrel
        have hbw : w.heap.size < W3.heap.size := by omega
        have z0 := (Below.cell hgz (p := ⟨w.heap.size, 0, none⟩) hbw).trans p0
        have z1 := (Below.cell hgz (p := ⟨w.heap.size, 1, none⟩) hbw).trans p1
        have z2 := (Below.cell hgz (p := ⟨w.heap.size, 2, none⟩) hbw).trans p2
        have hzs := hgz.size
        by_cases hlt : k < n
        · have hkl : k < l.length := by rw [HN.out]; omega
          have gr : Grow w wr := g3.trans hgz
          have hU := nsTo_in HM.out (k + 1) (by omega)
          obtain ⟨S, hS⟩ : ∃ S, S = (at_ l k).1 := ⟨_, rfl⟩
          obtain ⟨C, hC⟩ : ∃ C, C = (at_ l k).2 := ⟨_, rfl⟩
          obtain ⟨T, hT⟩ : ∃ T, T = offTo l k := ⟨_, rfl⟩
          have c1 := (Below.cell gr (p := ⟨b, _, none⟩) hb).trans (HA.out.2 k hkl).1
          have c2 := (Below.cell gr (p := ⟨b, _, none⟩) hb).trans (HA.out.2 k hkl).2
          rw [← hS] at c1
          rw [← hC] at c2
          have OK := Lib.hid (HOF.out k)
          rw [← hT] at OK
          have hns : nsTo g x l (k + 1) = nsTo g x l k ++ [T, S, C] := by rw [nsTo, hT, hS, hC]
          rw [hns] at hU
          have HU := Lib.hid hU
          have HNS := Lib.hid hns
          have HLT := Lib.hid hlt
          have k0 : (0 : Int) ≤ (k : Int) := by omega
          have k1 : (k : Int) < (n : Int) := by omega
          obtain ⟨W4, hW4⟩ : ∃ W4, W4 = wr.alloc (.cells #[.int .i64 S, .int .i64 C] 28) := ⟨_, rfl⟩
          have g4 : Grow wr W4 := by rw [hW4]; exact (Grow.refl _).alloc _
          have hs4 : wr.heap.size < W4.heap.size := by rw [hW4]; simp
          have hbz : w.heap.size < W4.heap.size := by omega
          have y0 := (Below.cell g4 (p := ⟨w.heap.size, 0, none⟩) (by simp; omega)).trans z0
          have y1 := (Below.cell g4 (p := ⟨w.heap.size, 1, none⟩) (by simp; omega)).trans z1
          have y2 := (Below.cell g4 (p := ⟨w.heap.size, 2, none⟩) (by simp; omega)).trans z2
          have y3 : W4.cell? ⟨wr.heap.size, 0, none⟩ = some (.int .i64 S) := by rw [hW4]; simp [go_sem]
          have y4 : W4.cell? ⟨wr.heap.size, 1, none⟩ = some (.int .i64 C) := by rw [hW4]; simp [go_sem]
          have KB : ∀ W, Grow W4 W → W.cell? ⟨w.heap.size, 0, none⟩ = some (.int .i64 g) ∧ W.cell? ⟨w.heap.size, 1, none⟩ = some (.int .i64 x) ∧ W.cell? ⟨w.heap.size, 2, none⟩ = some (.slice (some ⟨b, o, none⟩) n c) ∧
              W.cell? ⟨wr.heap.size, 0, none⟩ = some (.int .i64 S) ∧ W.cell? ⟨wr.heap.size, 1, none⟩ = some (.int .i64 C) := fun W hG =>
            ⟨(Below.cell hG (p := ⟨w.heap.size, 0, none⟩) hbz).trans y0, (Below.cell hG (p := ⟨w.heap.size, 1, none⟩) hbz).trans y1, (Below.cell hG (p := ⟨w.heap.size, 2, none⟩) hbz).trans y2,
              (Below.cell hG (p := ⟨wr.heap.size, 0, none⟩) hs4).trans y3, (Below.cell hG (p := ⟨wr.heap.size, 1, none⟩) hs4).trans y4⟩
          have HKB := Lib.hid KB
          have HGR := Lib.hid (gr.trans g4)
          have HG4 := Lib.hid g4
          have HW4 := Lib.hid hW4
          clear hns hU hS hC hT hkl KB y0 y1 y2 y3 y4 g4 gr hW4
          go_wp2_with (rw [← HW4.out])
          go_region_held3 (fun W => W.cell? ⟨w.heap.size, 0, none⟩ = some (.int .i64 g) ∧ W.cell? ⟨w.heap.size, 1, none⟩ = some (.int .i64 x) ∧ W.cell? ⟨w.heap.size, 2, none⟩ = some (.slice (some ⟨b, o, none⟩) n c) ∧
              W.cell? ⟨wr.heap.size, 0, none⟩ = some (.int .i64 S) ∧ W.cell? ⟨wr.heap.size, 1, none⟩ = some (.int .i64 C))
            (first
              | exact HKB.out _ (Grow.refl _).drew
              | exact HKB.out _ (((Grow.refl _).drew.trans b5).alloc _)
              | exact HKB.out _ ((Grow.refl _).drew.trans b5))
            ((go_at_call 7; refine (OK.out _ HLT.out HGR.out.drew).mono ?_; rintro e w5 ⟨rfl, b5⟩))
          rename_i hHeld
          clear hHeld
          obtain ⟨W6, hW6⟩ : ∃ W6, W6 = w5.alloc (.cells #[.int .i64 T, .int .i64 S, .int .i64 C] 3) := ⟨_, rfl⟩
          have g6 : Grow wr W6 := by rw [hW6]; exact HG4.out.trans (((Grow.refl _).drew.trans b5).alloc _)
          have x0 : W6.cell? ⟨w5.heap.size, 0, none⟩ = some (.int .i64 T) := by rw [hW6]; simp [go_sem]
          have x1 : W6.cell? ⟨w5.heap.size, 1, none⟩ = some (.int .i64 S) := by rw [hW6]; simp [go_sem]
          have x2 : W6.cell? ⟨w5.heap.size, 2, none⟩ = some (.int .i64 C) := by rw [hW6]; simp [go_sem]
          have hs6 : w5.heap.size < W6.heap.size := by rw [hW6]; simp
          have hs7 : wr.heap.size ≤ w5.heap.size := by have := HG4.out.size; have := b5.size; simp at this; omega
          have xc : ∀ j, j < 3 → W6.cell? ⟨w5.heap.size, j, none⟩ = some (.int .i64 (nth [T, S, C] j)) := fun j hj => by
            match j, hj with
            | 0, _ => exact x0
            | 1, _ => exact x1
            | 2, _ => exact x2
          have HX := Lib.hid xc
          have SZ : Hid (W6.ownsRow W3.heap.size 5 1 u5 (4 * (4 + 3 * k) + 4 * 0) (bytesOf (nsTo g x l k) ++ bytesOf ([T, S, C].take 0))) := by
            show World.ownsRow _ _ _ _ _ _ _
            simpa [bytesOf] using own_below HZ.out g6
          have hne : u5.ownBlock ≠ some w5.heap.size := fun he => by have := (HZ.out.lt _ he).2; omega
          have HNE := Lib.hid hne
          have G6 := Lib.hid (hgz.trans g6)
          rw [← hW6]
          clear hW6 x0 x1 x2 xc HZ hgz z0 z1 z2 c1 c2 HKB HGR HW4 HG4 OK g6 hne
          go_wp2
          go_loopw [5, 53] (fun t i wz => ∃ j : Nat, j ≤ 3 ∧ i = .int .i64 j ∧ Hid (wz.ownsRow W3.heap.size 5 1 t (4 * (4 + 3 * k) + 4 * j) (bytesOf (nsTo g x l k) ++ bytesOf ([T, S, C].take j))) ∧ Grow W3 wz ∧
              Hid (t.ownBlock ≠ some w5.heap.size) ∧ Hid (∀ j, j < 3 → wz.cell? ⟨w5.heap.size, j, none⟩ = some (.int .i64 (nth [T, S, C] j))) ∧ w5.heap.size < wz.heap.size) (fun _ i _ => 3 - (intOf i).toNat)
          case atStart => exact ⟨0, by omega, rfl, SZ, G6.out, HNE, HX, hs6⟩
          case round =>
            clear SZ HX G6 HNE
            obtain ⟨j, hj, rfl, HZ, hgz, HNE, HX, hsz⟩ := hrel
            by_cases hjl : j < 3
            · have cj := HX.out j hjl
              have tk := bytes_take (ns := [T, S, C]) (k := j) (by simpa using hjl)
              obtain ⟨u1, u2⟩ := HU.out _ (List.mem_append_right _ (nth_mem (ns := [T, S, C]) (k := j) (by simpa using hjl)))
              obtain ⟨N, hN⟩ : ∃ N, N = nth [T, S, C] j := ⟨_, rfl⟩
              rw [← hN] at cj tk u1 u2
              have TK := Lib.hid tk
              clear hN tk
              have NA : ∀ v, Hid (wr.ownsRow W3.heap.size 5 1 v (4 * (4 + 3 * k) + 4 * j) (bytesOf (nsTo g x l k) ++ bytesOf ([T, S, C].take j))) → Hid (v.ownBlock ≠ some w5.heap.size) → Calls Try.prog 22 #[v, .int .i64 N] wr fun e w' => ∃ v', e = .returned v' ∧ Hid (w'.ownsRow W3.heap.size 5 1 v' (4 * (4 + 3 * k) + 4 * (j + 1)) (bytesOf (nsTo g x l k) ++ bytesOf ([T, S, C].take (j + 1)))) ∧ Grow W3 w' ∧
                  Hid (v'.ownBlock ≠ some w5.heap.size) ∧ Hid (∀ j, j < 3 → w'.cell? ⟨w5.heap.size, j, none⟩ = some (.int .i64 (nth [T, S, C] j))) ∧ w5.heap.size < w'.heap.size := fun v hv hn =>
                (number_any N u1 u2 W3.heap.size v _ _ wr (by omega) hgz.size hv.out).mono fun e w' ⟨v', he, hgr⟩ => ⟨v', he, by rw [TK.out, ← List.append_assoc]; exact hgr.1, Below.grown hgz hgr.2.1 hgz.size (fun q hq => (hv.out.lt q hq).1), by
                  rcases hgr.2.2.1 with h | ⟨q, h, hq⟩
                  · show Value.ownBlock _ ≠ _
                    rw [← h]; exact hn.out
                  · show Value.ownBlock _ ≠ _
                    rw [h]; simp; omega, fun i hi => by
                    rw [World.cell?_of_block (a := ⟨w5.heap.size, i, none⟩) (hgr.2.1.block w5.heap.size hsz (Ne.symm hn.out))]
                    exact HX.out i hi, Nat.lt_of_lt_of_le hsz hgr.2.1.size⟩
              have HNA := Lib.hid NA
              clear NA
              go_wp2_with fail
              refine (HNA.out _ HZ HNE).mono ?_
              rintro e w7 ⟨v7, rfl, h7, g7, n7, x7, s7⟩
              clear HZ HNA HNE HX
              go_wp2
              go_roundw
              case rel => exact ⟨j + 1, by omega, by go_num, h7, g7, n7, x7, s7⟩
              case measure => simp [intOf]; omega
            · obtain rfl : j = 3 := by omega
              have h8 : Hid (wr.ownsRow W3.heap.size 5 1 u5 (4 * (4 + 3 * (k + 1))) (bytesOf (nsTo g x l (k + 1)))) := by
                show World.ownsRow _ _ _ _ _ _ _
                rw [HNS.out, bytesOf_append, show 4 * (4 + 3 * (k + 1)) = 4 * (4 + 3 * k) + 4 * 3 from by omega]
                exact HZ.out
              clear HZ HX HNE
              go_wp2
              go_roundw
              case rel => exact ⟨_, _, _, _, _, _, _, _, _, _, _, _, _, _, _, _, _, _, _, _, _, _, _, _, _, _, _, ⟨k + 1, by omega, by go_num, h8, hgz⟩, rfl⟩
              case measure => simp [intOf]; omega
        · obtain rfl : k = n := by omega
          obtain ⟨gz, cz, rfl, _, _⟩ := HZ.out.form (by omega)
          go_wp2
          refine bodyPost_ret (v := .tuple #[.slice (some ⟨gz, 0, none⟩) (4 * (4 + 3 * k)) cz, .int .i64 0]) (by simp [results, Try.results10, go_sem]) rfl ?_
          have HZ2 := HZ.out
          have hfin : bytesOf (nsTo g x l k) = hdB g x l := by rw [hdB, HN.out]
          rw [hfin] at HZ2
          rw [show 4 * (4 + 3 * k) = 16 + 12 * k from by omega] at HZ2 ⊢
          exact ⟨gz, cz, rfl, Joins.ownsRow_le HZ2 g3.size, g3.trans hgz⟩
end Go.Proofs.Ytcfcdajglfipeaa
