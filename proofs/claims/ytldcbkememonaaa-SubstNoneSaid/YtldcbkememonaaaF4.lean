/-
  The walk of pike's step.
-/
import Derived.Test.YtldcbkememonaaaPg

namespace Go.Proofs.Ytldcbkememonaaa
open Go.RowKit
set_option linter.unusedVariables false
set_option linter.unusedSimpArgs false

theorem drop_at {α : Type} (l : List α) (j : Nat) (x : α) (h : l[j]? = some x) : l.drop j = x :: l.drop (j + 1) := by
  obtain ⟨h1, h2⟩ := List.getElem?_eq_some_iff.1 h
  rw [← h2]
  exact List.drop_eq_getElem_cons h1
theorem LOk.wf1 {L : List Ins} (h : LOk L) {k : Nat} (hk : k < L.length) : wf64 ((k : Int) + 1) := by
  have := h.len
  unfold wf64
  simp [Lit.wf, IntKind.min, IntKind.max, IntKind.signed, IntKind.bits]
  omega
set_option maxRecDepth 100000 in
set_option maxHeartbeats 8000000 in
theorem step_any (B m : Nat) (L : List Ins) (tx : ByteArray) (place : Nat) (ws : List Way) (S : List Int) (R : List Way × List Int × Option (List Int)) (hR : stepF L tx place ws [] [] = some R) (w : World) (bw bl mb g o : Nat) (lv : Value) (gr : Int) (a : Option Addr) (c : Nat)
    (hp : ProgAt w bw L g o tx gr a c) (hl : ListAt B w bl ws S lv mb) (LO : LOk L) (hA : AOk L m ws S) (hm : m ≤ 100000) (hpl : place ≤ 10000) (htx : tx.size ≤ 10000) :
    Calls Try.prog 31 #[.pointer (some ⟨bw, 0, none⟩), .pointer (some ⟨bl, 0, none⟩), .int .i64 place] w (StepP R w) := by
  obtain ⟨n, hn⟩ : ∃ n, n = ws.length := ⟨_, rfl⟩
  obtain ⟨nL, hnL⟩ : ∃ nL, nL = L.length := ⟨_, rfl⟩
  obtain ⟨cs, hown, hcs⟩ := hl.own
  obtain ⟨al, cl, hlv, _⟩ := own_shape hown
  rw [← hn] at hown hlv
  subst hlv
  have hn6 : n ≤ 100000 := by have := hA.le; have := hA.so.len; have := LO.len; omega
  have bl0 := cell_blk hl.blk 0
  simp at bl0
  obtain ⟨W1, hW1⟩ : ∃ W1, W1 = (w.alloc (.map #[] 0)).alloc (.cells #[.slice none 0 0, .map (some w.heap.size)] 67) := ⟨_, rfl⟩
  have g1 : Grow w W1 := by rw [hW1]; exact ((Grow.refl w).alloc _).alloc _
  have zW : W1.heap.size = w.heap.size + 2 := by rw [hW1]; simp
  have hbl := lt_blk hl.blk
  have bl0 := (Below.cell g1 (p := ⟨bl, 0, none⟩) hbl).trans bl0
  have LN := Lib.hid (show ListAt w.heap.size W1 (w.heap.size + 1) [] [] (.slice none 0 0) w.heap.size from by rw [hW1]; exact list_new w)
  have HP := Lib.hid hp
  have HOWN := Lib.hid hown
  have HCS := Lib.hid hcs
  have HN := Lib.hid hn
  have HNL := Lib.hid hnL
  have HA := Lib.hid hA
  have HLO := Lib.hid LO
  have HR := Lib.hid hR
  have G1 := Lib.hid g1
  have HBW := Lib.hid (lt_blk hp.blk)
  clear hp hl hown hcs hn hnL hA LO hR g1
  have hmm := @run_makeMap Try.prog
  go_enter Try.func31, Try.ntmps31
  go_wp2
  rw [← hW1]
  clear hW1 hmm
  go_loopw [21] (fun t wr => ∃ (j : Nat) (ws1 : List Way) (S1 : List Int) (lv1 : Value), j ≤ n ∧ t = .int .i64 j ∧ Hid (ListAt w.heap.size wr (w.heap.size + 1) ws1 S1 lv1 w.heap.size) ∧ Hid (Grow w wr) ∧ Hid (AOk L m ws1 S1) ∧ Hid (stepF L tx place (ws.drop j) ws1 S1 = some R)) (fun t _ => n - (intOf t).toNat)
  case atStart => exact ⟨0, [], [], _, by omega, rfl, LN, G1, Lib.hid (AOk.nil L m), Lib.hid (by rw [List.drop_zero]; exact HR.out)⟩
  case round =>
    clear LN bl0
    obtain ⟨j, ws1, S1, lv1, hj, rfl, HL, HG, HA1, HST⟩ := hrel
    have k0 : (0 : Int) ≤ (j : Int) := by omega
    by_cases hlt : j < n
    · have k1 : (j : Int) < (n : Int) := by omega
      obtain ⟨x, hx⟩ : ∃ x, ws[j]? = some x := ⟨_, List.getElem?_eq_getElem (by rw [← HN.out]; exact hlt)⟩
      obtain ⟨gl, cl', hv, _, hgl⟩ := HOWN.out.form (by omega)
      injection hv with hv1 _ hv2
      subst hv1 hv2
      obtain ⟨pvx, hpx, y0, y1⟩ := HCS.out.at j x hx
      have hown1 := own_grow HOWN.out HG.out
      have hpx1 := hpx.grow HG.out
      obtain ⟨apx, cpx, rfl⟩ := hpx1.shape
      obtain ⟨nx, hnx⟩ : ∃ nx, nx = x.ps.length := ⟨_, rfl⟩
      have hxi := HA.out.wy x (List.mem_of_getElem? hx)
      have e0 : wr.cell? ⟨gl, j * 2, none⟩ = some (.slice apx nx cpx) := by rw [World.ownsRow.cellAt hown1 (j * 2) (by omega), hnx]; exact y0
      have e1 : wr.cell? ⟨gl, j * 2 + 1, none⟩ = some (.int .i64 x.at_) := by rw [World.ownsRow.cellAt hown1 (j * 2 + 1) (by omega)]; exact y1
      obtain ⟨k, hk⟩ : ∃ k : Nat, x.at_ = k := ⟨x.at_.toNat, by omega⟩
      rw [hk] at e1
      have hkL : k < L.length := by omega
      obtain ⟨W2, hW2⟩ : ∃ W2, W2 = wr.alloc (.cells #[.slice apx nx cpx, .int .i64 k] 72) := ⟨_, rfl⟩
      have hbb := heap_alloc_new wr (.cells #[.slice apx nx cpx, .int .i64 k] 72)
      have g2 := (Grow.refl wr).alloc (.cells #[.slice apx nx cpx, .int .i64 k] 72)
      rw [← hW2] at hbb g2
      have gw2 : Grow w W2 := Below.trans HG.out (Below.mono g2 HG.out.size)
      have hpb := (Below.block gw2 _ HBW.out).trans HP.out.blk
      rw [← HNL.out] at hpb
      have p1 := cell_blk hpb 1
      have p2 := cell_blk hpb 2
      have x1c := cell_blk hbb 1
      have x0c := cell_blk hbb 0
      simp at p1 p2 x1c x0c
      obtain ⟨I, hI⟩ : ∃ I, L[k]? = some I := ⟨_, List.getElem?_eq_getElem hkL⟩
      have ha := HP.out.ad (by omega)
      subst ha
      obtain ⟨q0, q1, q2, q3, q4⟩ := (HP.out.rd.grow gw2) k I hI
      have LI := HLO.out.ps I (List.mem_of_getElem? hI)
      obtain ⟨op, ix, iy, ips⟩ := I
      simp only at q1 q2 q3 q4 LI
      have hbw2 : bw < W2.heap.size := lt_blk hpb
      have hbx2 : wr.heap.size < W2.heap.size := lt_blk hbb
      have v1 := World.new_ne W2 _ p1
      have v2 := World.new_ne W2 _ x1c
      have v3 := World.new_ne W2 _ q1
      have v4 := World.new_ne W2 _ q2
      have v5 := World.new_ne W2 _ q3
      have v6 := World.new_ne W2 _ q4
      have kk0 : (0 : Int) ≤ (k : Int) := by omega
      have kk1 : (k : Int) < (nL : Int) := by rw [HNL.out]; omega
      have kk2 : (k : Int) ≤ 100000 := by have := HLO.out.len; omega
      have HI := Lib.hid hI
      have HX := Lib.hid hx
      have HXK := Lib.hid hk
      have HPX := Lib.hid hpx1
      have HNX := Lib.hid hnx
      have HPB := Lib.hid hpb
      have HBB := Lib.hid hbb
      have G2 := Lib.hid g2
      have HM := Lib.hid hxi.2.2
      have HW1' := Lib.hid (HLO.out.wf1 hkL)
      have hst : stepF L tx place (x :: ws.drop (j + 1)) ws1 S1 = some R := by rw [← drop_at ws j x hx]; exact HST.out
      unfold stepF at hst
      rw [show x.at_.toNat = k by omega, hI] at hst
      simp only at hst
      have HST2 := Lib.hid hst
      clear hst hI hx hk hpx hpx1 hnx hpb hbb g2 gw2 hown1 y0 y1 hxi HST
      go_wp2
      rw [← hW2]
      clear hW2
      go_region_held3 (fun w' => w'.cell? ⟨bw, 1, none⟩ = some (.slice (some ⟨g, o, none⟩) nL c) ∧ w'.cell? ⟨wr.heap.size, 1, none⟩ = some (.int .i64 k) ∧ w'.cell? ⟨g, o + k * 4, none⟩ = some (.int .i64 op) ∧ w'.cell? ⟨g, o + k * 4 + 1, none⟩ = some (.int .i64 ix) ∧ w'.cell? ⟨g, o + k * 4 + 2, none⟩ = some (.int .i64 iy) ∧ w'.cell? ⟨g, o + k * 4 + 3, none⟩ = some (.string ips)) (go_keep) (fail)
      obtain ⟨W9, hW9⟩ : ∃ W9, W9 = (W2.alloc (.cells #[.int .i64 op, .int .i64 ix, .int .i64 iy, .string ips] 26)).drew := ⟨_, rfl⟩
      have g9 : Grow W2 W9 := by rw [hW9]; exact ((Grow.refl W2).alloc _).drew
      have hb26 : W9.heap[W2.heap.size]? = some (.cells #[.int .i64 op, .int .i64 ix, .int .i64 iy, .string ips] 26 (0, 0)) := by rw [hW9]; exact heap_alloc_new W2 _
      have hb72 := (Below.block g9 _ hbx2).trans HBB.out
      have u0 := cell_blk hb26 0
      have u3 := cell_blk hb26 3
      have r0 := cell_blk hb72 0
      have r1 := cell_blk hb72 1
      simp at u0 u3 r0 r1
      have P9 := (Below.cell g9 (p := ⟨bw, 2, none⟩) hbw2).trans p2
      have G9 : Hid (Grow wr W9) := Lib.hid (Below.trans G2.out (Below.mono g9 (Grow.size G2.out)))
      have GW9 : Hid (Grow w W9) := Lib.hid (Below.trans HG.out (Below.mono G9.out HG.out.size))
      rw [← hW9]
      clear hW9 g9 hb26 hb72 v1 v2 v3 v4 v5 v6 q1 q2 q3 q4 p1 p2 x0c x1c e0 e1
      cases o7 : (op == 7) with
      | true =>
        have hst := HST2.out
        rw [if_pos (by simpa using o7)] at hst
        injection hst with hst
        have HRR := Lib.hid hst
        clear hst
        go_wp2
        go_quiet (fail)
        go_wp2
        refine bodyPost_ret (v := .tuple #[.pointer (some ⟨w.heap.size + 1, 0, none⟩), .slice apx nx cpx, .bool true]) (by simp [results, Try.results31, go_sem]) rfl ?_
        rw [← HRR.out]
        refine ⟨w.heap.size + 1, w.heap.size, lv1, _, rfl, (HL.out.grow (below_drewN G9.out _)), below_drewN GW9.out _, ?_⟩
        have := HPX.out.grow (below_drewN G9.out nq)
        rw [← HNX.out] at this
        exact this
      | false =>
        have hst := HST2.out
        rw [if_neg (by simpa using o7)] at hst
        by_cases hpt : place < tx.size
        · have hpt1 : (place : Int) < (tx.size : Int) := by omega
          have pl0 : (0 : Int) ≤ (place : Int) := by omega
          obtain ⟨cb, hcb⟩ : ∃ cb, cb = by_ tx place := ⟨_, rfl⟩
          have ecb : tx[place].toNat = cb := by rw [hcb, by_at tx place hpt]
          have hc6 : cb < 256 := by rw [hcb]; exact by_lt _ _
          rw [← hcb] at hst
          have HCB := Lib.hid hcb
          clear hcb
          cases hh : hasF ips cb with
          | false =>
            rw [hh, if_neg (by simp)] at hst
            have NX := Lib.hid hst
            have HS := Lib.hid (show ∀ k : Nat, Calls Try.prog 41 #[.string ips, .int .u8 cb] (W9.drewN k) fun e w' => e = .returned (.bool false) ∧ ∃ m, w' = W9.drewN m from fun k => by
              refine (has41_any ips cb hc6 LI _).mono ?_
              rintro e w' ⟨rfl, rfl⟩
              exact ⟨by rw [hh], k, rfl⟩)
            clear hst hh
            go_wp2
            go_quiet (exact HS.out _)
            go_wp2
            go_roundw
            case rel => exact ⟨j + 1, ws1, S1, lv1, by omega, by go_num, Lib.hid (HL.out.grow (below_drewN G9.out _)), Lib.hid (below_drewN GW9.out _), HA1, NX⟩
            case measure => simp [intOf]; omega
          | true =>
            rw [hh, if_pos (by simp [hpt])] at hst
            obtain ⟨R1, hR1, hA2⟩ := addsF_one L tx.size (place + 1) m ⟨x.ps, x.at_ + 1⟩ ws1 S1 HA1.out HM.out
            rw [hR1] at hst
            have hR1' : addsF L tx.size (place + 1) (fuelA L) [⟨x.ps, (k : Int) + 1⟩] ws1 S1 = some R1 := by rw [← HXK.out]; exact hR1
            have HR1 := Lib.hid hR1'
            have HA2 := Lib.hid hA2
            have hlo9 := GW9.out.size
            have hs1 : w.heap.size + 1 < wr.heap.size := lt_blk HL.out.blk
            have AD := Lib.hid (fun q : Nat => adds_low w.heap.size m L tx (place + 1) ⟨x.ps, (k : Int) + 1⟩ ws1 S1 R1 HR1.out (W9.drewN q) bw (w.heap.size + 1) w.heap.size g o lv1 (.slice apx nx cpx) gr (some ⟨g, o, none⟩) c
              (HP.out.below (below_drewN GW9.out q) HBW.out (fun h => by have := HP.out.rd k _ HI.out; exact this.1)) HBW.out (fun h => by have := HP.out.rd k _ HI.out; exact this.1)
              (HL.out.grow (below_drewN G9.out q)) (by rw [HNX.out]; exact HPX.out.grow (below_drewN G9.out q)) HW1'.out HLO.out HA1.out (by rw [HM.out]; exact hm) (by omega) (by omega))
            clear hR1 hR1' hA2
            have NX := Lib.hid hst
            have HS := Lib.hid (show ∀ k : Nat, Calls Try.prog 41 #[.string ips, .int .u8 cb] (W9.drewN k) fun e w' => e = .returned (.bool true) ∧ ∃ m, w' = W9.drewN m from fun k => by
              refine (has41_any ips cb hc6 LI _).mono ?_
              rintro e w' ⟨rfl, rfl⟩
              exact ⟨by rw [hh], k, rfl⟩)
            clear hst hh
            go_wp2
            go_quiet (exact HS.out _)
            have ppl : ((place + 1 : Nat) : Int) = (place : Int) + 1 := by omega
            have AD1 := AD.out nq
            rw [ppl] at AD1
            have AD1 := Lib.hid AD1
            clear AD ppl
            go_wp2_with fail
            refine AD1.out.mono ?_
            rintro e w3 ⟨rfl, lv3, hl3, hb3, hi3⟩
            have HL3 := Lib.hid hl3
            have GB : Hid (Grow w w3) := Lib.hid (Below.trans (below_drewN GW9.out nq) hb3)
            clear hl3 hb3 hi3 AD1
            go_wp2
            go_roundw
            case rel => exact ⟨j + 1, R1.1, R1.2, lv3, by omega, by go_num, HL3, GB, HA2, NX⟩
            case measure => simp [intOf]; omega
        · have hpt1 : ¬ (place : Int) < (tx.size : Int) := by omega
          rw [if_neg (by simp [hpt])] at hst
          have NX := Lib.hid hst
          clear hst
          go_wp2
          go_quiet (fail)
          go_wp2
          go_roundw
          case rel => exact ⟨j + 1, ws1, S1, lv1, by omega, by go_num, Lib.hid (HL.out.grow (below_drewN G9.out _)), Lib.hid (below_drewN GW9.out _), HA1, NX⟩
          case measure => simp [intOf]; omega
    · have k1 : ¬ (j : Int) < (n : Int) := by omega
      obtain rfl : j = n := by omega
      have hst := HST.out
      rw [List.drop_of_length_le (by rw [← HN.out]; exact Nat.le_refl _)] at hst
      unfold stepF at hst
      injection hst with hst
      have HRR := Lib.hid hst
      clear hst
      go_wp2
      refine bodyPost_ret (v := .tuple #[.pointer (some ⟨w.heap.size + 1, 0, none⟩), .slice none 0 0, .bool false]) (by simp [results, Try.results31, go_sem]) rfl ?_
      rw [← HRR.out]
      exact ⟨w.heap.size + 1, w.heap.size, lv1, _, rfl, HL.out, HG.out, rfl⟩
end Go.Proofs.Ytldcbkememonaaa
