/-
  The walk of the document's does: kind 1. / The walk of the document's does: kind 2. / The walk of the document's does: kind 3.
-/
import Derived.Test.YticpldjcmhpjoaaQj
namespace Go.Proofs.Yticpldjcmhpjoaa
open Go.RowKit
set_option linter.unusedVariables false
set_option linter.unusedSimpArgs false

set_option maxRecDepth 20000 in
set_option maxHeartbeats 4000000 in
theorem doesr0 {P : Nat → Prop} (v : Value) (fs : List File) (c : Chg) (dv : Value) (w : World) (hk : c.kind = 0) (hl : look fs c.name = none) (h : RowF P w v fs) (hnd : NodupF fs) (hlen : fs.length ≤ 100000) (hd : BytesIn P w dv c.data) (hdl9 : c.data.length ≤ 1073741824) :
    Calls Try.prog 54 #[v, .agg #[.int .i64 1, .string c.name, .int .i64 (c.at_ : Int), dv]] w fun e w' => ∃ v', e = .returned v' ∧ RowF (fun k => P k ∨ w.heap.size ≤ k) w' v' (doesL fs c) ∧ Grow w w' := by
  obtain ⟨RES, hRES⟩ : ∃ RES, RES = doesL fs c := ⟨_, rfl⟩
  rw [← hRES]
  rw [doesL_body fs c (by omega)] at hRES
  have HRES := Lib.hid hRES
  clear hRES
  obtain ⟨name, hname⟩ : ∃ name, name = c.name := ⟨_, rfl⟩
  obtain ⟨i, hi⟩ : ∃ i, i = idx fs name := ⟨_, rfl⟩
  obtain ⟨ad, cd, hds⟩ := hd.shape
  subst hds
  obtain ⟨dl, hdl⟩ : ∃ dl, dl = c.data.length := ⟨_, rfl⟩
  rw [← hname]
  rw [← hdl] at hd ⊢
  obtain ⟨at_, hat⟩ : ∃ at_, at_ = c.at_ := ⟨_, rfl⟩
  rw [← hat]
  obtain ⟨a, cc, hv, hc⟩ := h.shape
  subst hv
  obtain ⟨n, hn⟩ : ∃ n, n = fs.length := ⟨_, rfl⟩
  rw [← hn] at h hc hlen ⊢
  obtain ⟨W1, hW1⟩ : ∃ W1, W1 = w.alloc (.cells #[.int .i64 1, .string name, .int .i64 (at_ : Int), .slice ad dl cd] 91) := ⟨_, rfl⟩
  have hg1 : Grow w W1 := by rw [hW1]; exact (Grow.refl w).alloc _
  have hb1 := heap_alloc_new w (.cells #[.int .i64 1, .string name, .int .i64 (at_ : Int), .slice ad dl cd] 91)
  rw [← hW1] at hb1
  have hbl := lt_blk hb1
  have FN := findr_any _ fs name W1 (h.keep (stand_grow hg1)) (by omega)
  rw [← hi] at FN
  have FN := Lib.hid FN
  have BX := Lib.hid (show ∀ W, Grow W1 W → W.cell? ⟨w.heap.size, 0, none⟩ = some (.int .i64 1) ∧ W.cell? ⟨w.heap.size, 1, none⟩ = some (.string name) ∧ W.cell? ⟨w.heap.size, 2, none⟩ = some (.int .i64 (at_ : Int)) ∧ W.cell? ⟨w.heap.size, 3, none⟩ = some (.slice ad dl cd) from fun W hW => by
    have hb := (Below.block hW _ hbl).trans hb1
    exact ⟨by rw [cell_blk hb]; rfl, by rw [cell_blk hb]; rfl, by rw [cell_blk hb]; rfl, by rw [cell_blk hb]; rfl⟩)
  have HF := Lib.hid (show ∀ W, Grow W1 W → RowF P W (.slice a n cc) fs from fun W hW => h.keep (stand_grow (hg1.trans hW)))
  have HD := Lib.hid (show ∀ W, Grow W1 W → BytesIn (fun k => P k ∨ w.heap.size ≤ k) W (.slice ad dl cd) c.data from fun W hW => ((hd.turn (Turn.of_grow (P := P) hg1)).turn (Turn.of_grow (P := P) hW)).mono (fun _ _ h => .inl h))
  have HI := Lib.hid hi
  have HNM := Lib.hid hname
  have HAT := Lib.hid hat
  have HDL := Lib.hid hdl
  have HN := Lib.hid hn
  have HND := Lib.hid hnd
  have HK := Lib.hid hk
  have HW := Lib.hid hW1
  have HG1 := Lib.hid hg1
  have HDL9 := Lib.hid hdl9
  have HLK := Lib.hid hl
  have hineg : i = -1 := by rw [hi, hname]; exact idx_look hl
  clear hW1 hg1 hb1 hn h hd hi hname hdl hnd hk hat hdl9 hl
  subst hineg
  have hs1 : w.heap.size < W1.heap.size := hbl
  go_enter Try.func54, Try.ntmps54
  go_wp2_with fail
  rw [← HW.out]
  refine FN.out.mono ?_
  rintro _ w2 ⟨rfl, g2⟩
  have G2 := Lib.hid (show Grow W1 w2 from g2)
  clear g2
  go_wp2
  go_loopw [6, 7] (fun mv i wr => ∃ j : Nat, j ≤ n ∧ i = .int .i64 (j : Int) ∧ Hid (RowO W1.heap.size (fun k => P k ∨ w.heap.size ≤ k) wr mv (bodyL (fs.take j) c)) ∧ Hid (Grow W1 wr)) (fun _ i _ => n - (intOf i).toNat)
  case atStart => exact ⟨0, by omega, rfl, Lib.hid (by rw [List.take_zero, bodyL_nil]; exact RowO.nil _ _ _), G2⟩
  case round =>
    obtain ⟨j, hj, rfl, HR, HG⟩ := hrel
    obtain ⟨x0, x1, x2, x3⟩ := BX.out _ HG.out
    have hzr : w.heap.size < wr.heap.size := by have := Grow.size HG.out; omega
    by_cases hlt : j < n
    · have k1 : (j : Int) < (n : Int) := by omega
      obtain ⟨p, hp⟩ : ∃ p, fs[j]? = some p := ⟨_, List.getElem?_eq_getElem (by rw [← HN.out]; exact hlt)⟩
      obtain ⟨g, bv, ea, hb, r0, r1⟩ := (HF.out _ HG.out).at j p hp
      obtain ⟨ab, cb, hbv⟩ := hb.shape
      subst hbv
      obtain ⟨bl, hbl2⟩ : ∃ bl, bl = p.2.length := ⟨_, rfl⟩
      rw [← hbl2] at r1 hb
      obtain ⟨pn, hpn⟩ : ∃ pn, pn = p.1 := ⟨_, rfl⟩
      rw [← hpn] at r0
      have hii := idx_iff (s := name) HND.out hp
      rw [← HI.out, ← hpn] at hii
      obtain ⟨W4, hW4⟩ : ∃ W4, W4 = wr.alloc (.cells #[.string pn, .slice ab bl cb] 93) := ⟨_, rfl⟩
      have g4 : Grow wr W4 := by rw [hW4]; exact (Grow.refl wr).alloc _
      have hb4 := heap_alloc_new wr (.cells #[.string pn, .slice ab bl cb] 93)
      rw [← hW4] at hb4
      have hbody : bodyL (fs.take (j + 1)) c = bodyL (fs.take j) c ++ (if p.1 = c.name then (if c.kind = 1 then [(p.1, over p.2 c.at_ c.data)] else if c.kind = 2 then [] else [p]) else [p]) := by
        rw [List.take_add_one, hp]
        exact bodyL_snoc _ _ _
      have hLen : (bodyL (fs.take j) c).length ≤ 1000000 := by have := bodyL_len (fs.take j) c; rw [List.length_take] at this; omega
      have HB4 := Lib.hid ((hb.turn (Turn.of_grow (P := P) g4)).mono (Q := fun k => P k ∨ w.heap.size ≤ k) (fun _ _ h => .inl h))
      have HR4 := Lib.hid (HR.out.grow g4)
      have HG4 := Lib.hid (HG.out.trans g4)
      have HBD := Lib.hid hbody
      have HPN := Lib.hid hpn
      have HBL := Lib.hid hbl2
      have HLN := Lib.hid hLen
      have HPM := Lib.hid hp
      have hz4 : w.heap.size < W4.heap.size := by have := Grow.size g4; omega
      have HZ4 := Lib.hid (Grow.size g4)
      have y0 : W4.cell? ⟨wr.heap.size, 0, none⟩ = some (.string pn) := by rw [cell_blk hb4]; rfl
      have y1 : W4.cell? ⟨wr.heap.size, 1, none⟩ = some (.slice ab bl cb) := by rw [cell_blk hb4]; rfl
      have HW4 := Lib.hid hW4
      subst ea
      have HII := Lib.hid hii
      clear hb hp hbl2 hpn hW4 g4 hbody hLen hb4 hii
      have hne : ¬ p.1 = c.name := look_none HLK.out p (List.mem_of_getElem? HPM.out)
      have hne2 : ((j : Int) == -1) = false := by first | (simp; done) | (simp; omega)
      have HNE := Lib.hid hne
      clear hne
      have hzz : W4.heap.size = wr.heap.size + 1 := by rw [HW4.out]; simp
      obtain ⟨v5, w5, r5, o5, b5⟩ := HR4.out.push (Grow.size HG4.out) HLN.out pn p.2 HB4.out
      have HO5 := Lib.hid (show RowO W1.heap.size (fun k => P k ∨ w.heap.size ≤ k) w5 v5 (bodyL (fs.take (j + 1)) c) from by
        rw [HBD.out]
        rw [if_neg HNE.out]
        have := o5
        rw [HPN.out] at this
        exact this)
      have HG5 := Lib.hid (show Grow W1 w5 from Below.trans HG4.out b5)
      rw [hzz, HW4.out] at r5
      clear o5 b5 hzz
      go_wp2_with (at_builtin; refine wpList_appF r5 (by rfl) _ _ (by rfl) (by rfl) (by rfl) ?_)
      go_roundw
      case rel => exact ⟨j + 1, by omega, by go_num, HO5, HG5⟩
      case measure => simp [intOf]; omega
    · have k1 : ¬ (j : Int) < (n : Int) := by omega
      obtain rfl : n = j := by omega
      have hbn : fs.take n = fs := by rw [HN.out, List.take_length]
      have HR' := Lib.hid (show RowO W1.heap.size (fun k => P k ∨ w.heap.size ≤ k) wr _ (bodyL fs c) from by have := HR.out; rw [hbn] at this; exact this)
      have hLen : (bodyL fs c).length ≤ 1000000 := by have := bodyL_len fs c; have := HN.out; omega
      obtain ⟨v5, w5, r5, o5, b5⟩ := HR'.out.push (Grow.size HG.out) hLen name c.data (HD.out _ HG.out)
      have HFIN := Lib.hid (show RowF (fun k => P k ∨ w.heap.size ≤ k) w5 v5 RES from by
        rw [HRES.out, if_pos HK.out, ← HNM.out]
        exact o5.rowF (fun k _ hk => .inr (by omega)))
      have HG5 := Lib.hid (show Grow w w5 from HG1.out.trans (Below.trans HG.out b5))
      clear o5 b5 hbn hLen
      go_wp2_with (at_builtin; refine wpList_appF r5 (by rfl) _ _ (by rfl) (by rfl) (by rfl) ?_)
      go_ret
      exact ⟨v5, rfl, HFIN.out, HG5.out⟩
end Go.Proofs.Yticpldjcmhpjoaa

namespace Go.Proofs.Yticpldjcmhpjoaa
open Go.RowKit
set_option linter.unusedVariables false
set_option linter.unusedSimpArgs false

set_option maxRecDepth 20000 in
set_option maxHeartbeats 4000000 in
theorem doesr1 {P : Nat → Prop} (v : Value) (fs : List File) (c : Chg) (dv : Value) (w : World) (hk : c.kind = 1)  (h : RowF P w v fs) (hnd : NodupF fs) (hlen : fs.length ≤ 100000) (hd : BytesIn P w dv c.data) (hdl9 : c.data.length ≤ 1073741824) (hfit : ∀ p ∈ fs, p.1 = c.name → c.at_ + c.data.length ≤ p.2.length) (hsm : ∀ p ∈ fs, p.2.length ≤ 1073741824) :
    Calls Try.prog 54 #[v, .agg #[.int .i64 2, .string c.name, .int .i64 (c.at_ : Int), dv]] w fun e w' => ∃ v', e = .returned v' ∧ RowF (fun k => P k ∨ w.heap.size ≤ k) w' v' (doesL fs c) ∧ Grow w w' := by
  obtain ⟨RES, hRES⟩ : ∃ RES, RES = doesL fs c := ⟨_, rfl⟩
  rw [← hRES]
  rw [doesL_body fs c (by omega)] at hRES
  have HRES := Lib.hid hRES
  clear hRES
  obtain ⟨name, hname⟩ : ∃ name, name = c.name := ⟨_, rfl⟩
  obtain ⟨i, hi⟩ : ∃ i, i = idx fs name := ⟨_, rfl⟩
  obtain ⟨ad, cd, hds⟩ := hd.shape
  subst hds
  obtain ⟨dl, hdl⟩ : ∃ dl, dl = c.data.length := ⟨_, rfl⟩
  rw [← hname]
  rw [← hdl] at hd ⊢
  obtain ⟨at_, hat⟩ : ∃ at_, at_ = c.at_ := ⟨_, rfl⟩
  rw [← hat]
  obtain ⟨a, cc, hv, hc⟩ := h.shape
  subst hv
  obtain ⟨n, hn⟩ : ∃ n, n = fs.length := ⟨_, rfl⟩
  rw [← hn] at h hc hlen ⊢
  obtain ⟨W1, hW1⟩ : ∃ W1, W1 = w.alloc (.cells #[.int .i64 2, .string name, .int .i64 (at_ : Int), .slice ad dl cd] 91) := ⟨_, rfl⟩
  have hg1 : Grow w W1 := by rw [hW1]; exact (Grow.refl w).alloc _
  have hb1 := heap_alloc_new w (.cells #[.int .i64 2, .string name, .int .i64 (at_ : Int), .slice ad dl cd] 91)
  rw [← hW1] at hb1
  have hbl := lt_blk hb1
  have FN := findr_any _ fs name W1 (h.keep (stand_grow hg1)) (by omega)
  rw [← hi] at FN
  have FN := Lib.hid FN
  have BX := Lib.hid (show ∀ W, Grow W1 W → W.cell? ⟨w.heap.size, 0, none⟩ = some (.int .i64 2) ∧ W.cell? ⟨w.heap.size, 1, none⟩ = some (.string name) ∧ W.cell? ⟨w.heap.size, 2, none⟩ = some (.int .i64 (at_ : Int)) ∧ W.cell? ⟨w.heap.size, 3, none⟩ = some (.slice ad dl cd) from fun W hW => by
    have hb := (Below.block hW _ hbl).trans hb1
    exact ⟨by rw [cell_blk hb]; rfl, by rw [cell_blk hb]; rfl, by rw [cell_blk hb]; rfl, by rw [cell_blk hb]; rfl⟩)
  have HF := Lib.hid (show ∀ W, Grow W1 W → RowF P W (.slice a n cc) fs from fun W hW => h.keep (stand_grow (hg1.trans hW)))
  have HD := Lib.hid (show ∀ W, Grow W1 W → BytesIn (fun k => P k ∨ w.heap.size ≤ k) W (.slice ad dl cd) c.data from fun W hW => ((hd.turn (Turn.of_grow (P := P) hg1)).turn (Turn.of_grow (P := P) hW)).mono (fun _ _ h => .inl h))
  have HI := Lib.hid hi
  have HNM := Lib.hid hname
  have HAT := Lib.hid hat
  have HDL := Lib.hid hdl
  have HN := Lib.hid hn
  have HND := Lib.hid hnd
  have HK := Lib.hid hk
  have HW := Lib.hid hW1
  have HG1 := Lib.hid hg1
  have HDL9 := Lib.hid hdl9
  have HFIT := Lib.hid hfit
  have HSM := Lib.hid hsm
  clear hW1 hg1 hb1 hn h hd hi hname hdl hnd hk hat hdl9 hfit hsm
  have hs1 : w.heap.size < W1.heap.size := hbl
  go_enter Try.func54, Try.ntmps54
  go_wp2_with fail
  rw [← HW.out]
  refine FN.out.mono ?_
  rintro _ w2 ⟨rfl, g2⟩
  have G2 := Lib.hid (show Grow W1 w2 from g2)
  clear g2
  go_wp2
  go_loopw [6, 7] (fun mv i wr => ∃ j : Nat, j ≤ n ∧ i = .int .i64 (j : Int) ∧ Hid (RowO W1.heap.size (fun k => P k ∨ w.heap.size ≤ k) wr mv (bodyL (fs.take j) c)) ∧ Hid (Grow W1 wr)) (fun _ i _ => n - (intOf i).toNat)
  case atStart => exact ⟨0, by omega, rfl, Lib.hid (by rw [List.take_zero, bodyL_nil]; exact RowO.nil _ _ _), G2⟩
  case round =>
    obtain ⟨j, hj, rfl, HR, HG⟩ := hrel
    obtain ⟨x0, x1, x2, x3⟩ := BX.out _ HG.out
    have hzr : w.heap.size < wr.heap.size := by have := Grow.size HG.out; omega
    by_cases hlt : j < n
    · have k1 : (j : Int) < (n : Int) := by omega
      obtain ⟨p, hp⟩ : ∃ p, fs[j]? = some p := ⟨_, List.getElem?_eq_getElem (by rw [← HN.out]; exact hlt)⟩
      obtain ⟨g, bv, ea, hb, r0, r1⟩ := (HF.out _ HG.out).at j p hp
      obtain ⟨ab, cb, hbv⟩ := hb.shape
      subst hbv
      obtain ⟨bl, hbl2⟩ : ∃ bl, bl = p.2.length := ⟨_, rfl⟩
      rw [← hbl2] at r1 hb
      obtain ⟨pn, hpn⟩ : ∃ pn, pn = p.1 := ⟨_, rfl⟩
      rw [← hpn] at r0
      have hii := idx_iff (s := name) HND.out hp
      rw [← HI.out, ← hpn] at hii
      obtain ⟨W4, hW4⟩ : ∃ W4, W4 = wr.alloc (.cells #[.string pn, .slice ab bl cb] 93) := ⟨_, rfl⟩
      have g4 : Grow wr W4 := by rw [hW4]; exact (Grow.refl wr).alloc _
      have hb4 := heap_alloc_new wr (.cells #[.string pn, .slice ab bl cb] 93)
      rw [← hW4] at hb4
      have hbody : bodyL (fs.take (j + 1)) c = bodyL (fs.take j) c ++ (if p.1 = c.name then (if c.kind = 1 then [(p.1, over p.2 c.at_ c.data)] else if c.kind = 2 then [] else [p]) else [p]) := by
        rw [List.take_add_one, hp]
        exact bodyL_snoc _ _ _
      have hLen : (bodyL (fs.take j) c).length ≤ 1000000 := by have := bodyL_len (fs.take j) c; rw [List.length_take] at this; omega
      have HB4 := Lib.hid ((hb.turn (Turn.of_grow (P := P) g4)).mono (Q := fun k => P k ∨ w.heap.size ≤ k) (fun _ _ h => .inl h))
      have HR4 := Lib.hid (HR.out.grow g4)
      have HG4 := Lib.hid (HG.out.trans g4)
      have HBD := Lib.hid hbody
      have HPN := Lib.hid hpn
      have HBL := Lib.hid hbl2
      have HLN := Lib.hid hLen
      have HPM := Lib.hid hp
      have hz4 : w.heap.size < W4.heap.size := by have := Grow.size g4; omega
      have HZ4 := Lib.hid (Grow.size g4)
      have y0 : W4.cell? ⟨wr.heap.size, 0, none⟩ = some (.string pn) := by rw [cell_blk hb4]; rfl
      have y1 : W4.cell? ⟨wr.heap.size, 1, none⟩ = some (.slice ab bl cb) := by rw [cell_blk hb4]; rfl
      have HW4 := Lib.hid hW4
      subst ea
      have HII := Lib.hid hii
      clear hb hp hbl2 hpn hW4 g4 hbody hLen hb4 hii
      by_cases he : pn = name
      · have hq1 : (j : Int) = i := HII.out.2 he
        have hq2 : ((j : Int) == i) = true := by simpa using hq1
        have hq3 : ((j : Int) != i) = false := by simp [bne, hq2]
        have hpc : p.1 = c.name := by rw [← HPN.out, ← HNM.out]; exact he
        have hft : at_ + dl ≤ bl := by have := HFIT.out p (List.mem_of_getElem? HPM.out) hpc; rw [← HBL.out, ← HDL.out, ← HAT.out] at this; exact this
        have hbl9 : bl ≤ 1073741824 := by rw [HBL.out]; exact HSM.out p (List.mem_of_getElem? HPM.out)
        have HPC := Lib.hid hpc
        obtain ⟨g6, c6, w6, r6, o6, hc6, g46⟩ := app_fresh (w := W4) (HB4.out.holds) (by have := HBL.out; omega)
        rw [← HBL.out] at r6 hc6
        have G46 := Lib.hid g46
        have HO6 := Lib.hid o6
        have hzz : W4.heap.size = wr.heap.size + 1 := by rw [HW4.out]; simp
        rw [hzz, HW4.out] at r6
        clear he hq1 hpc g46 o6
        go_wp2_with (at_builtin; refine wpList_appR r6 (by rfl) _ _ (by rfl) (by rfl) (by rfl) ?_)
        clear r6
        have HWR := Lib.hid (show wr.heap.size < W4.heap.size from by omega)
        have HB44 := Lib.hid (show W4.heap[wr.heap.size]? = some (.cells #[.string pn, .slice ab bl cb] 93 (0, 0)) from by rw [HW4.out]; exact heap_alloc_new wr _)
        have TAIL := Lib.hid (fun (w7 : World) (v7 : Value) (hg : Grow W4 w7) (hb7 : OwnL W4.heap.size w7 v7 (over p.2 at_ c.data)) => (show ∃ v5 w5, AppF ((w7.setCell ⟨wr.heap.size, 1, none⟩ v7).alloc (.cells #[.string pn, v7] 93)) u6 (.slice (some ⟨w7.heap.size, 0, none⟩) 1 1) v5 w5 ∧ Hid (RowO W1.heap.size (fun k => P k ∨ w.heap.size ≤ k) w5 v5 (bodyL (fs.take (j + 1)) c)) ∧ Hid (Grow W1 w5) ∧ w7.cell? ⟨wr.heap.size, 0, none⟩ = some (.string pn) ∧ w7.cell? ⟨wr.heap.size, 1, none⟩ = some (.slice ab bl cb) ∧ w7.frozen? ⟨wr.heap.size, 1, none⟩ = false from by
          have hb := (Below.block hg _ HWR.out).trans HB44.out
          have hc0 : w7.cell? ⟨wr.heap.size, 0, none⟩ = some (.string pn) := by rw [cell_blk hb]; rfl
          have hc1 : w7.cell? ⟨wr.heap.size, 1, none⟩ = some (.slice ab bl cb) := by rw [cell_blk hb]; rfl
          have tS : Turn (fun k => k = wr.heap.size) w7 (w7.setCell ⟨wr.heap.size, 1, none⟩ v7) := Turn.of_set (a := ⟨wr.heap.size, 1, none⟩) hc1 (fun x hx => by rw [hc0] at hx; injection hx with hx; cases hx)
          have hR8 := (HR4.out.grow hg).turn tS (fun q e h => by have := HR.out.lt q e; omega)
          have hs8 : (w7.setCell ⟨wr.heap.size, 1, none⟩ v7).heap.size = w7.heap.size := by simp
          have hz1 := Grow.size HG.out
          have hz2 := Grow.size hg
          obtain ⟨v5, w5, r5, o5, b5⟩ := hR8.push (by have := Grow.size HG4.out; omega) HLN.out pn (over p.2 at_ c.data) (((hb7.bytes.mono (Q := fun k => P k ∨ w.heap.size ≤ k) (fun k _ hk => .inr (by omega)))).turn tS)
          rw [hs8] at r5
          refine ⟨v5, w5, r5, Lib.hid ?_, Lib.hid ?_, hc0, hc1, froz_blk hb 1⟩
          · rw [HBD.out, if_pos HPC.out, if_pos HK.out, ← HAT.out]
            have := o5
            rw [HPN.out] at this
            exact this
          · exact Below.trans (Below.trans (HG4.out.trans hg) (tS.below (by omega) (fun n e => by omega))) b5))
        have G16 := Lib.hid (HG4.out.trans G46.out)
        obtain ⟨w7, hcp, hv7, b7⟩ := run_copyL (P := fun k => P k ∨ w.heap.size ≤ k) (b := p.2) (c := c6) (own_grow HO6.out (Grow.refl w6).drew) ((HD.out _ G16.out).turn (Turn.of_grow (P := P) (Grow.refl w6).drew)) at_ (by rw [← HBL.out, ← HDL.out]; exact hft) (c6 - at_)
        rw [← HBL.out, ← HDL.out] at hcp
        rw [← HBL.out] at hv7
        have HCP := Lib.hid hcp
        have G47 := Lib.hid (show Grow W4 w7 from Below.trans G46.out.drew b7)
        have HV7 := Lib.hid (show OwnL W4.heap.size w7 (.slice (some ⟨g6, 0, none⟩) bl c6) (over p.2 at_ c.data) from by rw [HBL.out] at hv7 ⊢; exact hv7)
        have a1 : at_ ≤ bl := by omega
        have a2 : (at_ : Int) ≤ (bl : Int) := by omega
        obtain ⟨b0, b1, b2, b3⟩ := BX.out _ G16.out
        clear hcp hv7 b7
        go_region_held3 (fun W => W.cell? ⟨w.heap.size, 2, none⟩ = some (.int .i64 (at_ : Int)) ∧ W.cell? ⟨w.heap.size, 3, none⟩ = some (.slice ad dl cd))
          (first
            | exact (BX.out _ G16.out.drew).2.2
            | exact (BX.out _ (HG4.out.trans G47.out)).2.2)
          ((refine step_copy_run (by rfl) _ _ _ _ (by rfl) _ _ _ w7 (by rfl) (by rfl) HCP.out ?_))
        all_goals
          have HGG := G47.out
          have HBB := HV7.out
          obtain ⟨v5, w5, r5, HO5, HG5, y0', y1', yf⟩ := TAIL.out w7 (.slice (some ⟨g6, 0, none⟩) bl c6) HGG HBB
          obtain ⟨z0, z1, z2, z3⟩ := BX.out w7 (HG4.out.trans HGG)
          have zk : (w7.setCell ⟨wr.heap.size, 1, none⟩ (.slice (some ⟨g6, 0, none⟩) bl c6)).cell? ⟨w.heap.size, 0, none⟩ = some (.int .i64 2) := (cell_of_block (a := ⟨w.heap.size, 0, none⟩) (heap_setCell_other _ _ _ _ (by simp only; omega))).trans z0
          have hwl : wr.heap.size < w7.heap.size := lt_of_cell y0'
          clear HGG HBB
          go_wp2_with (at_builtin; refine wpList_appF r5 (by rfl) _ _ (by rfl) (by rfl) (by rfl) ?_)
          go_roundw
          case rel => exact ⟨j + 1, by omega, by go_num, HO5, HG5⟩
          case measure => simp [intOf]; omega
      · have hq1 : ¬ (j : Int) = i := fun h => he (HII.out.1 h)
        have hq2 : ((j : Int) == i) = false := by simpa using hq1
        have hq3 : ((j : Int) != i) = true := by simp [bne, hq2]
        have HNE := Lib.hid (show ¬ p.1 = c.name from by rw [← HPN.out, ← HNM.out]; exact he)
        clear he hq1
        have hzz : W4.heap.size = wr.heap.size + 1 := by rw [HW4.out]; simp
        obtain ⟨v5, w5, r5, o5, b5⟩ := HR4.out.push (Grow.size HG4.out) HLN.out pn p.2 HB4.out
        have HO5 := Lib.hid (show RowO W1.heap.size (fun k => P k ∨ w.heap.size ≤ k) w5 v5 (bodyL (fs.take (j + 1)) c) from by
          rw [HBD.out]
          rw [if_neg HNE.out]
          have := o5
          rw [HPN.out] at this
          exact this)
        have HG5 := Lib.hid (show Grow W1 w5 from Below.trans HG4.out b5)
        rw [hzz, HW4.out] at r5
        clear o5 b5 hzz
        go_wp2_with (at_builtin; refine wpList_appF r5 (by rfl) _ _ (by rfl) (by rfl) (by rfl) ?_)
        go_roundw
        case rel => exact ⟨j + 1, by omega, by go_num, HO5, HG5⟩
        case measure => simp [intOf]; omega
    · have k1 : ¬ (j : Int) < (n : Int) := by omega
      obtain rfl : n = j := by omega
      have hbn : fs.take n = fs := by rw [HN.out, List.take_length]
      have HFIN := Lib.hid (show RowF (fun k => P k ∨ w.heap.size ≤ k) wr _ RES from by
        rw [HRES.out, if_neg (by have := HK.out; omega)]
        have := HR.out
        rw [hbn] at this
        exact this.rowF (fun k _ hk => .inr (by omega)))
      have HG5 := Lib.hid (show Grow w wr from HG1.out.trans HG.out)
      clear hbn
      go_wp2
      go_ret
      exact ⟨_, rfl, HFIN.out, HG5.out⟩
end Go.Proofs.Yticpldjcmhpjoaa

namespace Go.Proofs.Yticpldjcmhpjoaa
open Go.RowKit
set_option linter.unusedVariables false
set_option linter.unusedSimpArgs false

set_option maxRecDepth 20000 in
set_option maxHeartbeats 4000000 in
theorem doesr2 {P : Nat → Prop} (v : Value) (fs : List File) (c : Chg) (dv : Value) (w : World) (hk : c.kind = 2)  (h : RowF P w v fs) (hnd : NodupF fs) (hlen : fs.length ≤ 100000) (hd : BytesIn P w dv c.data) (hdl9 : c.data.length ≤ 1073741824) :
    Calls Try.prog 54 #[v, .agg #[.int .i64 3, .string c.name, .int .i64 (c.at_ : Int), dv]] w fun e w' => ∃ v', e = .returned v' ∧ RowF (fun k => P k ∨ w.heap.size ≤ k) w' v' (doesL fs c) ∧ Grow w w' := by
  obtain ⟨RES, hRES⟩ : ∃ RES, RES = doesL fs c := ⟨_, rfl⟩
  rw [← hRES]
  rw [doesL_body fs c (by omega)] at hRES
  have HRES := Lib.hid hRES
  clear hRES
  obtain ⟨name, hname⟩ : ∃ name, name = c.name := ⟨_, rfl⟩
  obtain ⟨i, hi⟩ : ∃ i, i = idx fs name := ⟨_, rfl⟩
  obtain ⟨ad, cd, hds⟩ := hd.shape
  subst hds
  obtain ⟨dl, hdl⟩ : ∃ dl, dl = c.data.length := ⟨_, rfl⟩
  rw [← hname]
  rw [← hdl] at hd ⊢
  obtain ⟨at_, hat⟩ : ∃ at_, at_ = c.at_ := ⟨_, rfl⟩
  rw [← hat]
  obtain ⟨a, cc, hv, hc⟩ := h.shape
  subst hv
  obtain ⟨n, hn⟩ : ∃ n, n = fs.length := ⟨_, rfl⟩
  rw [← hn] at h hc hlen ⊢
  obtain ⟨W1, hW1⟩ : ∃ W1, W1 = w.alloc (.cells #[.int .i64 3, .string name, .int .i64 (at_ : Int), .slice ad dl cd] 91) := ⟨_, rfl⟩
  have hg1 : Grow w W1 := by rw [hW1]; exact (Grow.refl w).alloc _
  have hb1 := heap_alloc_new w (.cells #[.int .i64 3, .string name, .int .i64 (at_ : Int), .slice ad dl cd] 91)
  rw [← hW1] at hb1
  have hbl := lt_blk hb1
  have FN := findr_any _ fs name W1 (h.keep (stand_grow hg1)) (by omega)
  rw [← hi] at FN
  have FN := Lib.hid FN
  have BX := Lib.hid (show ∀ W, Grow W1 W → W.cell? ⟨w.heap.size, 0, none⟩ = some (.int .i64 3) ∧ W.cell? ⟨w.heap.size, 1, none⟩ = some (.string name) ∧ W.cell? ⟨w.heap.size, 2, none⟩ = some (.int .i64 (at_ : Int)) ∧ W.cell? ⟨w.heap.size, 3, none⟩ = some (.slice ad dl cd) from fun W hW => by
    have hb := (Below.block hW _ hbl).trans hb1
    exact ⟨by rw [cell_blk hb]; rfl, by rw [cell_blk hb]; rfl, by rw [cell_blk hb]; rfl, by rw [cell_blk hb]; rfl⟩)
  have HF := Lib.hid (show ∀ W, Grow W1 W → RowF P W (.slice a n cc) fs from fun W hW => h.keep (stand_grow (hg1.trans hW)))
  have HD := Lib.hid (show ∀ W, Grow W1 W → BytesIn (fun k => P k ∨ w.heap.size ≤ k) W (.slice ad dl cd) c.data from fun W hW => ((hd.turn (Turn.of_grow (P := P) hg1)).turn (Turn.of_grow (P := P) hW)).mono (fun _ _ h => .inl h))
  have HI := Lib.hid hi
  have HNM := Lib.hid hname
  have HAT := Lib.hid hat
  have HDL := Lib.hid hdl
  have HN := Lib.hid hn
  have HND := Lib.hid hnd
  have HK := Lib.hid hk
  have HW := Lib.hid hW1
  have HG1 := Lib.hid hg1
  have HDL9 := Lib.hid hdl9
  clear hW1 hg1 hb1 hn h hd hi hname hdl hnd hk hat hdl9
  have hs1 : w.heap.size < W1.heap.size := hbl
  go_enter Try.func54, Try.ntmps54
  go_wp2_with fail
  rw [← HW.out]
  refine FN.out.mono ?_
  rintro _ w2 ⟨rfl, g2⟩
  have G2 := Lib.hid (show Grow W1 w2 from g2)
  clear g2
  go_wp2
  go_loopw [6, 7] (fun mv i wr => ∃ j : Nat, j ≤ n ∧ i = .int .i64 (j : Int) ∧ Hid (RowO W1.heap.size (fun k => P k ∨ w.heap.size ≤ k) wr mv (bodyL (fs.take j) c)) ∧ Hid (Grow W1 wr)) (fun _ i _ => n - (intOf i).toNat)
  case atStart => exact ⟨0, by omega, rfl, Lib.hid (by rw [List.take_zero, bodyL_nil]; exact RowO.nil _ _ _), G2⟩
  case round =>
    obtain ⟨j, hj, rfl, HR, HG⟩ := hrel
    obtain ⟨x0, x1, x2, x3⟩ := BX.out _ HG.out
    have hzr : w.heap.size < wr.heap.size := by have := Grow.size HG.out; omega
    by_cases hlt : j < n
    · have k1 : (j : Int) < (n : Int) := by omega
      obtain ⟨p, hp⟩ : ∃ p, fs[j]? = some p := ⟨_, List.getElem?_eq_getElem (by rw [← HN.out]; exact hlt)⟩
      obtain ⟨g, bv, ea, hb, r0, r1⟩ := (HF.out _ HG.out).at j p hp
      obtain ⟨ab, cb, hbv⟩ := hb.shape
      subst hbv
      obtain ⟨bl, hbl2⟩ : ∃ bl, bl = p.2.length := ⟨_, rfl⟩
      rw [← hbl2] at r1 hb
      obtain ⟨pn, hpn⟩ : ∃ pn, pn = p.1 := ⟨_, rfl⟩
      rw [← hpn] at r0
      have hii := idx_iff (s := name) HND.out hp
      rw [← HI.out, ← hpn] at hii
      obtain ⟨W4, hW4⟩ : ∃ W4, W4 = wr.alloc (.cells #[.string pn, .slice ab bl cb] 93) := ⟨_, rfl⟩
      have g4 : Grow wr W4 := by rw [hW4]; exact (Grow.refl wr).alloc _
      have hb4 := heap_alloc_new wr (.cells #[.string pn, .slice ab bl cb] 93)
      rw [← hW4] at hb4
      have hbody : bodyL (fs.take (j + 1)) c = bodyL (fs.take j) c ++ (if p.1 = c.name then (if c.kind = 1 then [(p.1, over p.2 c.at_ c.data)] else if c.kind = 2 then [] else [p]) else [p]) := by
        rw [List.take_add_one, hp]
        exact bodyL_snoc _ _ _
      have hLen : (bodyL (fs.take j) c).length ≤ 1000000 := by have := bodyL_len (fs.take j) c; rw [List.length_take] at this; omega
      have HB4 := Lib.hid ((hb.turn (Turn.of_grow (P := P) g4)).mono (Q := fun k => P k ∨ w.heap.size ≤ k) (fun _ _ h => .inl h))
      have HR4 := Lib.hid (HR.out.grow g4)
      have HG4 := Lib.hid (HG.out.trans g4)
      have HBD := Lib.hid hbody
      have HPN := Lib.hid hpn
      have HBL := Lib.hid hbl2
      have HLN := Lib.hid hLen
      have HPM := Lib.hid hp
      have hz4 : w.heap.size < W4.heap.size := by have := Grow.size g4; omega
      have HZ4 := Lib.hid (Grow.size g4)
      have y0 : W4.cell? ⟨wr.heap.size, 0, none⟩ = some (.string pn) := by rw [cell_blk hb4]; rfl
      have y1 : W4.cell? ⟨wr.heap.size, 1, none⟩ = some (.slice ab bl cb) := by rw [cell_blk hb4]; rfl
      have HW4 := Lib.hid hW4
      subst ea
      have HII := Lib.hid hii
      clear hb hp hbl2 hpn hW4 g4 hbody hLen hb4 hii
      by_cases he : pn = name
      · have hq1 : (j : Int) = i := HII.out.2 he
        have hq2 : ((j : Int) == i) = true := by simpa using hq1
        have hq3 : ((j : Int) != i) = false := by simp [bne, hq2]
        have HO5 := Lib.hid (show RowO W1.heap.size (fun k => P k ∨ w.heap.size ≤ k) W4 _ (bodyL (fs.take (j + 1)) c) from by
          rw [HBD.out, if_pos (by rw [← HPN.out, ← HNM.out]; exact he), if_neg (by have := HK.out; omega), if_pos HK.out, List.append_nil]
          exact HR4.out)
        clear he hq1
        go_wp2
        rw [← HW4.out]
        go_roundw
        case rel => exact ⟨j + 1, by omega, by go_num, HO5, HG4⟩
        case measure => simp [intOf]; omega
      · have hq1 : ¬ (j : Int) = i := fun h => he (HII.out.1 h)
        have hq2 : ((j : Int) == i) = false := by simpa using hq1
        have hq3 : ((j : Int) != i) = true := by simp [bne, hq2]
        have HNE := Lib.hid (show ¬ p.1 = c.name from by rw [← HPN.out, ← HNM.out]; exact he)
        clear he hq1
        have hzz : W4.heap.size = wr.heap.size + 1 := by rw [HW4.out]; simp
        obtain ⟨v5, w5, r5, o5, b5⟩ := HR4.out.push (Grow.size HG4.out) HLN.out pn p.2 HB4.out
        have HO5 := Lib.hid (show RowO W1.heap.size (fun k => P k ∨ w.heap.size ≤ k) w5 v5 (bodyL (fs.take (j + 1)) c) from by
          rw [HBD.out]
          rw [if_neg HNE.out]
          have := o5
          rw [HPN.out] at this
          exact this)
        have HG5 := Lib.hid (show Grow W1 w5 from Below.trans HG4.out b5)
        rw [hzz, HW4.out] at r5
        clear o5 b5 hzz
        go_wp2_with (at_builtin; refine wpList_appF r5 (by rfl) _ _ (by rfl) (by rfl) (by rfl) ?_)
        go_roundw
        case rel => exact ⟨j + 1, by omega, by go_num, HO5, HG5⟩
        case measure => simp [intOf]; omega
    · have k1 : ¬ (j : Int) < (n : Int) := by omega
      obtain rfl : n = j := by omega
      have hbn : fs.take n = fs := by rw [HN.out, List.take_length]
      have HFIN := Lib.hid (show RowF (fun k => P k ∨ w.heap.size ≤ k) wr _ RES from by
        rw [HRES.out, if_neg (by have := HK.out; omega)]
        have := HR.out
        rw [hbn] at this
        exact this.rowF (fun k _ hk => .inr (by omega)))
      have HG5 := Lib.hid (show Grow w wr from HG1.out.trans HG.out)
      clear hbn
      go_wp2
      go_ret
      exact ⟨_, rfl, HFIN.out, HG5.out⟩
end Go.Proofs.Yticpldjcmhpjoaa
