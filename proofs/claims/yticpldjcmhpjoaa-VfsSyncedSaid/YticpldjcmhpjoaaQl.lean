/-
  The document's does, Sync; the parts of its do. / The walk of the document's do.
-/
import Derived.Test.YticpldjcmhpjoaaQk
import Derived.Deep.AppendLies
namespace Go.Proofs.Yticpldjcmhpjoaa
open Go.RowKit
set_option linter.unusedVariables false
set_option linter.unusedSimpArgs false

theorem doesr_any {P : Nat → Prop} (v : Value) (fs : List File) (c : Chg) (dv : Value) (w : World) (room : Nat) (hr : room ≤ 1073741824) (hf : OkF room fs) (hc : OkC fs c) (h : RowF P w v fs) (hlen : fs.length ≤ 100000) (hd : BytesIn P w dv c.data) :
    Calls Try.prog 54 #[v, .agg #[.int .i64 (1 + (c.kind : Int)), .string c.name, .int .i64 (c.at_ : Int), dv]] w fun e w' => ∃ v', e = .returned v' ∧ RowF (More P w w') w' v' (doesL fs c) ∧ Grow w w' := by
  have fin : ∀ (e : Ending) (w' : World), (∃ v', e = .returned v' ∧ RowF (fun k => P k ∨ w.heap.size ≤ k) w' v' (doesL fs c) ∧ Grow w w') → ∃ v', e = .returned v' ∧ RowF (More P w w') w' v' (doesL fs c) ∧ Grow w w' := fun e w' ⟨v', h1, h2, h3⟩ =>
    ⟨v', h1, h2.mono (fun k hk hp => by unfold More; rcases hp with hp | hp; exact .inl hp; exact .inr ⟨hp, hk⟩), h3⟩
  rcases hc.kind with ⟨hk, hl⟩ | ⟨hk, b, hl, hfit⟩ | ⟨hk, _⟩
  · have := doesr0 v fs c dv w hk hl h hf.nodup hlen hd hc.data
    rw [show (1 : Int) + (c.kind : Int) = 1 from by omega]
    exact this.mono fin
  · have hs := hf.small hr
    have := doesr1 v fs c dv w hk h hf.nodup hlen hd hc.data (fun p hp hn => by have := mem_look hf.nodup hp; rw [hn, hl] at this; injection this with this; rw [← this]; exact hfit) (fun p hp => hs _ _ (mem_look hf.nodup hp))
    rw [show (1 : Int) + (c.kind : Int) = 2 from by omega]
    exact this.mono fin
  · have := doesr2 v fs c dv w hk h hf.nodup hlen hd hc.data
    rw [show (1 : Int) + (c.kind : Int) = 3 from by omega]
    exact this.mono fin
theorem XsM.c0 {P : Nat → Prop} {w : World} {xb : Nat} {nv wv lv : Value} {cs : List Value} {D : Doc} (h : XsM P w xb nv wv lv cs D) : w.cell? ⟨xb, 0, none⟩ = some (.int .i64 (D.room : Int)) := by rw [cell_blk h.hx]; rfl
/-- a store into the FS's block -/
theorem set_x {w : World} {xb : Nat} {C : Array Value} {r : Int} {j : Nat} {x u : Value} (h : w.heap[xb]? = some (.cells C 73 (0, 0))) (h0 : C[0]? = some (.int .i64 r)) (hj : C[j]? = some u) :
    (w.setCell ⟨xb, j, none⟩ x).heap[xb]? = some (.cells (C.setIfInBounds j x) 73 (0, 0)) ∧ TurnX (fun k => k = xb) w (w.setCell ⟨xb, j, none⟩ x) :=
  ⟨Go.heap_setCell_same w xb j _ _ _ h, TurnX.of_set (a := ⟨xb, j, none⟩) (by rw [cell_blk h]; exact hj) (by rw [cell_blk h]; exact h0) (fun i e => by injection e with e; cases e) (fun s e => by cases e)⟩
theorem RowF.own_ne {P : Nat → Prop} {w : World} {v : Value} {fs : List File} {xb : Nat} {C : Array Value} (h : RowF P w v fs) (hx : w.heap[xb]? = some (.cells C 73 (0, 0))) : ∀ q, v.ownBlock = some q → q ≠ xb := by
  obtain ⟨cs, h1, _⟩ := h
  intro q e hq
  obtain ⟨cur, hc⟩ := own_lt h1 e
  subst hq
  rw [hx] at hc
  simp at hc
def XsP (P : Nat → Prop) (xb : Nat) (v : Value) (D : Doc) (w : World) (e : Ending) (w' : World) : Prop :=
  e = .returned v ∧ XsAt (More P w w') w' xb D ∧ TurnX P w w'
theorem xsync_any {P : Nat → Prop} (xb : Nat) (D : Doc) (w : World) (h : XsAt P w xb D) : Calls Try.prog 23 #[.pointer (some ⟨xb, 0, none⟩)] w (XsP P xb (.tuple #[]) ⟨D.room, D.now, D.now, []⟩ w) := by
  obtain ⟨nv, wv, lv, cs, hM⟩ := h
  have q1 : w.cell? ⟨xb, 1, none⟩ = some nv := by rw [cell_blk hM.hx]; rfl
  have q2 : w.cell? ⟨xb, 2, none⟩ = some wv := by rw [cell_blk hM.hx]; rfl
  have q3 : w.cell? ⟨xb, 3, none⟩ = some lv := by rw [cell_blk hM.hx]; rfl
  have z2 := froz_blk hM.hx 2
  have z3 := froz_blk hM.hx 3
  obtain ⟨a, c, hv, _⟩ := hM.now.shape
  obtain ⟨s1, s2⟩ := set_x (j := 2) (x := nv) hM.hx rfl rfl
  obtain ⟨s3, s4⟩ := set_x (j := 3) (x := .slice none 0 0) s1 rfl rfl
  have tt : TurnX (fun k => k = xb) w ((w.setCell ⟨xb, 2, none⟩ nv).setCell ⟨xb, 3, none⟩ (.slice none 0 0)) := s2.same s4
  have hN : RowF (More P w ((w.setCell ⟨xb, 2, none⟩ nv).setCell ⟨xb, 3, none⟩ (.slice none 0 0))) ((w.setCell ⟨xb, 2, none⟩ nv).setCell ⟨xb, 3, none⟩ (.slice none 0 0)) nv D.now := (hM.now.turn tt).mono (fun k _ h => .inl h)
  have FIN := Lib.hid (show XsAt (More P w ((w.setCell ⟨xb, 2, none⟩ nv).setCell ⟨xb, 3, none⟩ (.slice none 0 0))) ((w.setCell ⟨xb, 2, none⟩ nv).setCell ⟨xb, 3, none⟩ (.slice none 0 0)) xb ⟨D.room, D.now, D.now, []⟩ ∧ TurnX P w ((w.setCell ⟨xb, 2, none⟩ nv).setCell ⟨xb, 3, none⟩ (.slice none 0 0)) from
    ⟨⟨nv, nv, .slice none 0 0, [], ⟨s3, hN, hN, ⟨rfl, .inl ⟨rfl, rfl⟩⟩, .nil, fun _ => rfl, .inl hM.px, (fun q hq => (by cases hq))⟩⟩, tt.mono (fun k _ e => by subst e; exact hM.px)⟩)
  obtain ⟨wa, wb, hwv, _⟩ := hM.was.shape
  rw [hv] at q1 FIN
  subst hwv
  clear hM s1 s2 s3 s4 tt hN hv
  go_enter Try.func23, Try.ntmps23
  go_wp2
  go_end0
  exact ⟨rfl, FIN.out.1, FIN.out.2⟩
end Go.Proofs.Yticpldjcmhpjoaa

namespace Go.Proofs.Yticpldjcmhpjoaa
open Go.RowKit
set_option linter.unusedVariables false
set_option linter.unusedSimpArgs false

/-- files are others now -/
theorem XsM.renow {P : Nat → Prop} {w w2 : World} {xb : Nat} {nv wv lv v2 : Value} {cs : List Value} {D : Doc} {fs : List File} (h : XsM P w xb nv wv lv cs D) (g : Grow w w2) (h2 : RowF (More P w w2) w2 v2 fs) :
    XsM (More P w (w2.setCell ⟨xb, 1, none⟩ v2)) (w2.setCell ⟨xb, 1, none⟩ v2) xb v2 wv lv cs { D with now := fs } ∧ TurnX P w (w2.setCell ⟨xb, 1, none⟩ v2) := by
  have h1 := h.keep (stand_grow g)
  obtain ⟨s1, s2⟩ := set_x (j := 1) (x := v2) h1.hx rfl rfl
  have hs : (w2.setCell ⟨xb, 1, none⟩ v2).heap.size = w2.heap.size := by simp
  refine ⟨⟨s1, (h2.turn s2).mono (fun k hk hp => by unfold More at hp ⊢; rw [hs]; exact hp), (h1.was.turn s2).mono (fun k _ h => .inl h), own_kept h1.row (fun q e => by
    refine s2.block q (by obtain ⟨cur, hc⟩ := own_lt h1.row e; exact lt_blk hc) (fun hq => ?_)
    obtain ⟨cur, hc⟩ := own_lt h1.row e
    subst hq
    rw [h1.hx] at hc
    simp at hc), (h1.chg.turn s2.toTurn).mono (fun k _ h => .inl h), h1.nil, .inl h.px, fun q e => .inl (h.pr q e)⟩, (TurnX.of_grow (P := P) g).trans s2 (fun k _ e => by subst e; exact h.px)⟩
/-- the row of changes grew by one -/
theorem XsM.snoc {P : Nat → Prop} {w w3 : World} {xb : Nat} {nv wv lv dv : Value} {cs : List Value} {D : Doc} (h : XsM P w xb nv wv lv cs D) (c : Chg) (g cp : Nat) (hd : BytesIn P w dv c.data)
    (hown : w3.ownsRow 0 91 4 (.slice (some ⟨g, 0, none⟩) (D.l.length + 1) cp) (D.l.length + 1) (cs ++ c.cells (1 + (c.kind : Int)) dv)) (hgr : w.grownBy w3 lv.ownBlock) (hg : lv.ownBlock = some g ∨ w.heap.size ≤ g) :
    XsM (More P w w3) (w3.setCell ⟨xb, 3, none⟩ (.slice (some ⟨g, 0, none⟩) (D.l.length + 1) cp)) xb nv wv (.slice (some ⟨g, 0, none⟩) (D.l.length + 1) cp) (cs ++ c.cells (1 + (c.kind : Int)) dv) { D with l := D.l ++ [c] } ∧
    TurnX P w (w3.setCell ⟨xb, 3, none⟩ (.slice (some ⟨g, 0, none⟩) (D.l.length + 1) cp)) := by
  obtain ⟨v3, hv3⟩ : ∃ v3, v3 = Value.slice (some ⟨g, 0, none⟩) (D.l.length + 1) cp := ⟨_, rfl⟩
  have ht : TurnX (fun k => lv.ownBlock = some k) w w3 := TurnX.of_grown hgr (fun q hq => by
    obtain ⟨k, hk⟩ := h.row0 q hq
    exact ⟨_, hk, (fun i e => by injection e with e; cases e), (fun s e => by cases e)⟩)
  have hnx : lv.ownBlock ≠ some xb := fun e => by obtain ⟨cur, hc⟩ := own_lt h.row e; rw [h.hx] at hc; simp at hc
  have hx3 := (ht.block xb (lt_blk h.hx) hnx).trans h.hx
  have hgl : g < w3.heap.size := by
    obtain ⟨cur, hc⟩ := own_lt (q := g) hown rfl
    exact lt_blk hc
  have hgx : g ≠ xb := by
    rintro rfl
    rcases hg with hg | hg
    · exact hnx hg
    · have := lt_blk h.hx; omega
  rw [← hv3] at hown ⊢
  obtain ⟨s1, s2⟩ := set_x (j := 3) (x := v3) hx3 rfl rfl
  refine ⟨⟨s1, ((h.now.turn ht).turn s2).mono (fun k _ h => .inl h), ((h.was.turn ht).turn s2).mono (fun k _ h => .inl h), own_kept (by simpa using hown) (fun q hq => s2.block q (by rw [hv3] at hq; injection hq with hq; subst hq; exact hgl) (by rw [hv3] at hq; injection hq with hq; subst hq; exact hgx)), ?_, ?_, .inl h.px, ?_⟩, ?_⟩
  · refine ChgCs.append (((h.chg.turn ht.toTurn).turn s2.toTurn).mono (fun k _ hp => .inl hp)) ?_
    have := ChgCs.cons (base := 1) c [] dv [] (((hd.turn ht.toTurn).turn s2.toTurn).mono (Q := More P w w3) (fun k _ hp => .inl hp)) .nil
    simpa using this
  · intro e; simp at e
  · intro q hq
    rw [hv3] at hq
    injection hq with hq
    subst hq
    rcases hg with hg | hg
    · exact .inl (h.pr _ hg)
    · exact .inr ⟨hg, hgl⟩
  · exact (ht.mono (Q := P) (fun k _ e => h.pr k e)).trans s2 (fun k _ e => by subst e; exact h.px)
set_option maxRecDepth 20000 in
set_option maxHeartbeats 2000000 in
theorem xdo_any {P : Nat → Prop} (xb : Nat) (D : Doc) (c : Chg) (dv : Value) (w : World) (hX : XsAt P w xb D) (hG : Good D) (hc : OkC D.now c) (hll : D.l.length ≤ 1000000) (hnl : D.now.length ≤ 100000) (hd : BytesIn P w dv c.data) :
    Calls Try.prog 53 #[.pointer (some ⟨xb, 0, none⟩), .agg #[.int .i64 (1 + (c.kind : Int)), .string c.name, .int .i64 (c.at_ : Int), dv]] w (XsP P xb (.int .i64 0) (D.did c) w) := by
  obtain ⟨nv, wv, lv, cs, hM⟩ := hX
  obtain ⟨ad, cd, hds⟩ := hd.shape
  subst hds
  obtain ⟨dl, hdl⟩ : ∃ dl, dl = c.data.length := ⟨_, rfl⟩
  obtain ⟨kd, hkd⟩ : ∃ kd : Int, kd = 1 + (c.kind : Int) := ⟨_, rfl⟩
  rw [← hdl] at hd ⊢
  rw [← hkd]
  obtain ⟨W1, hW1⟩ : ∃ W1, W1 = w.alloc (.cells #[.int .i64 kd, .string c.name, .int .i64 (c.at_ : Int), .slice ad dl cd] 91) := ⟨_, rfl⟩
  have hg1 : Grow w W1 := by rw [hW1]; exact (Grow.refl w).alloc _
  have hb1 := heap_alloc_new w (.cells #[.int .i64 kd, .string c.name, .int .i64 (c.at_ : Int), .slice ad dl cd] 91)
  rw [← hW1] at hb1
  have hM1 := hM.keep (stand_grow (P := P) hg1)
  have hd1 : BytesIn P W1 (.slice ad dl cd) c.data := hd.turn (Turn.of_grow (P := P) hg1)
  have DR := doesr_any (P := P) nv D.now c (.slice ad dl cd) W1.drew D.room hG.room hG.runs.last hc (hM1.now.keep (stand_grow (Grow.refl W1).drew)) hnl (hd1.turn (Turn.of_grow (P := P) (Grow.refl W1).drew))
  rw [← hkd] at DR
  have DR := Lib.hid DR
  obtain ⟨na, nc, hnv, _⟩ := hM.now.shape
  obtain ⟨nn, hnn⟩ : ∃ nn, nn = D.now.length := ⟨_, rfl⟩
  rw [← hnn] at hnv
  have q1 : W1.cell? ⟨xb, 1, none⟩ = some nv := by rw [cell_blk hM1.hx]; rfl
  have x0 := cell_blk hb1 0
  have x1 := cell_blk hb1 1
  have x2 := cell_blk hb1 2
  have x3 := cell_blk hb1 3
  simp at x0 x1 x2 x3
  have CA := Lib.hid (show ∀ w2, Grow W1.drew w2 → w2.cell? ⟨xb, 1, none⟩ = some nv ∧ w2.frozen? ⟨xb, 1, none⟩ = false ∧ w2.heap[w.heap.size]? = some (.cells #[.int .i64 kd, .string c.name, .int .i64 (c.at_ : Int), .slice ad dl cd] 91 (0, 0)) from fun w2 g => by
    have gg : Grow W1 w2 := (Grow.refl W1).drew.trans g
    have hb := (Below.block gg xb (lt_blk hM1.hx)).trans hM1.hx
    exact ⟨by rw [cell_blk hb]; rfl, froz_blk hb 1, (Below.block gg _ (lt_blk hb1)).trans hb1⟩)
  subst hnv
  have HM1 := Lib.hid hM1
  have HD1 := Lib.hid hd1
  have HG1 := Lib.hid hg1
  have HW := Lib.hid hW1
  have HKD := Lib.hid hkd
  have HDL := Lib.hid hdl
  have HLL := Lib.hid hll
  have HNX := Lib.hid (show xb < w.heap.size from lt_blk hM.hx)
  clear hM hM1 hd hd1 hg1 hW1 hb1 hkd hdl hc hll hnl hnn hG
  go_enter Try.func53, Try.ntmps53
  go_wp2
  rw [← HW.out]
  go_region_law
    (go_simp; go_at_call 54; refine DR.out.mono ?_; rintro _ w2 ⟨v2, rfl, hF2, g2⟩; obtain ⟨y1, yf, yb⟩ := CA.out _ g2; obtain ⟨a2, c2, hv2, hx2⟩ := hF2.shape; clear hx2; subst hv2; obtain ⟨n2, hn2⟩ : ∃ n2, n2 = (doesL D.now c).length := ⟨_, rfl⟩; have HN2 := Lib.hid hn2; rw [← hn2] at hF2; rw [← hn2]; clear hn2)
  all_goals
    have hMM := HM1.out.renow ((Grow.refl W1).drew.trans g2) hF2
    obtain ⟨W3, hW3⟩ : ∃ W3, W3 = w2.setCell ⟨xb, 1, none⟩ (.slice a2 n2 c2) := ⟨_, rfl⟩
    rw [← hW3] at hMM ⊢
    obtain ⟨hM3, t3⟩ := hMM
    have hb3 : W3.heap[w.heap.size]? = some (.cells #[.int .i64 kd, .string c.name, .int .i64 (c.at_ : Int), .slice ad dl cd] 91 (0, 0)) := by
      rw [hW3]
      exact (heap_setCell_other _ _ _ _ (by have := HNX.out; simp only; omega)).trans yb
    obtain ⟨N, hN⟩ : ∃ N, N = D.l.length := ⟨_, rfl⟩
    have hrow := hM3.row
    rw [show ({ D with now := doesL D.now c } : Doc).l.length = N from hN.symm] at hrow
    obtain ⟨al, cl, hlv⟩ : ∃ al cl, lv = .slice al N cl := by
      rcases hrow.2 with ⟨h1, h2⟩ | ⟨g, cap, cur, h1, _⟩
      · exact ⟨none, 0, by rw [h1, h2]⟩
      · exact ⟨_, cap, h1⟩
    have p3 : W3.cell? ⟨xb, 3, none⟩ = some (.slice al N cl) := by rw [cell_blk hM3.hx, ← hlv]; rfl
    have e0 := cell_blk hb3 0
    have e1 := cell_blk hb3 1
    have e2 := cell_blk hb3 2
    have e3 := cell_blk hb3 3
    simp at e0 e1 e2 e3
    have hxl : xb < W3.heap.size := lt_of_cell p3
    have hN9 : N ≤ 1000000 := by have := HLL.out; omega
    have mx : N + 1 ≤ maxLen := by unfold maxLen; omega
    obtain ⟨i0, hi0, hz0, hz1, hz2⟩ := info_parts (show (Try.prog.info? 91).map (fun i => (i.zero, i.size, i.bytes)) = some (some (.agg #[.int .i64 0, .string ⟨#[]⟩, .int .i64 0, .slice none 0 0]), 4, 56) by kernel_rfl)
    have NE6 := Lib.hid (show lv.ownBlock ≠ some xb from fun e => by obtain ⟨cur, hc⟩ := own_lt hrow e; rw [hM3.hx] at hc; simp at hc)
    have HXB := Lib.hid hM3.hx
    obtain ⟨ob, hob⟩ : ∃ ob, ob = Obj.cells #[.int .i64 kd, .string c.name, .int .i64 (c.at_ : Int), .slice ad dl cd] 91 := ⟨_, rfl⟩
    have hrow1 := hM3.keep (stand_grow (P := More P W1 W3) ((Grow.refl W3).drew.alloc ob))
    have FIN := Lib.hid (show ∀ (wz : World) (gg cp : Nat), wz.ownsRow 0 91 4 (.slice (some ⟨gg, 0, none⟩) (N + 1) cp) (N + 1) (cs ++ [.int .i64 kd, .string c.name, .int .i64 (c.at_ : Int), .slice ad dl cd]) →
        (W3.drew.alloc (.cells #[.int .i64 kd, .string c.name, .int .i64 (c.at_ : Int), .slice ad dl cd] 91)).grownBy wz lv.ownBlock → (lv.ownBlock = some gg ∨ gg = W3.heap.size + 1) →
        XsAt (More P w (wz.setCell ⟨xb, 3, none⟩ (.slice (some ⟨gg, 0, none⟩) (N + 1) cp))) (wz.setCell ⟨xb, 3, none⟩ (.slice (some ⟨gg, 0, none⟩) (N + 1) cp)) xb (D.did c) ∧ TurnX P w (wz.setCell ⟨xb, 3, none⟩ (.slice (some ⟨gg, 0, none⟩) (N + 1) cp)) from by
      intro wz gg cp h1 h2 h3
      rw [← hob] at h2
      have gA : Grow W3 (W3.drew.alloc ob) := (Grow.refl W3).drew.alloc _
      have tA : TurnX P w (W3.drew.alloc ob) := ((TurnX.of_grow (P := P) HG1.out).same t3).same (TurnX.of_grow (P := P) gA)
      have hs1 : (W3.drew.alloc ob).heap.size = W3.heap.size + 1 := by simp
      have hd' : BytesIn (More P W1 W3) (W3.drew.alloc ob) (.slice ad dl cd) c.data := ((HD1.out.turn t3.toTurn).turn (Turn.of_grow (P := P) gA)).mono (fun k _ h => .inl h)
      have hcl : c.cells (1 + (c.kind : Int)) (.slice ad dl cd) = [.int .i64 kd, .string c.name, .int .i64 (c.at_ : Int), .slice ad dl cd] := by rw [HKD.out]; rfl
      rw [hN] at h1 ⊢
      obtain ⟨r1, r2⟩ := hrow1.snoc c gg cp hd' (by rw [hcl]; exact h1) h2 (by rw [hs1]; rcases h3 with h | h; exact .inl h; exact .inr (by omega))
      have tB := tA.trans r2 (fun k hk h => by
        rcases h with h | ⟨h, _⟩
        · exact h
        · have := Grow.size HG1.out; omega)
      refine ⟨⟨_, _, _, _, r1.mono (fun k hk h => ?_)⟩, tB⟩
      unfold More at h ⊢
      have q1 := Grow.size HG1.out
      have q2 := t3.size
      rcases h with (h | ⟨h, h'⟩) | ⟨h, h'⟩
      · exact .inl h
      · exact .inr ⟨by omega, hk⟩
      · exact .inr ⟨by omega, hk⟩)
    clear hob ob hrow1
    have HROW := Lib.hid hrow
    have c5A := Lib.hid (show ∀ ob, (W3.drew.alloc ob).cell? ⟨xb, 3, none⟩ = some (.slice al N cl) from fun ob => (World.cell?_alloc_lt _ _ _ (by simpa using hxl)).trans (by simpa using p3))
    have FZ8 := Lib.hid (show ∀ (ob : Obj) (w8 : World), (W3.drew.alloc ob).grownBy w8 lv.ownBlock → w8.frozen? ⟨xb, 3, none⟩ = false from fun ob w8 hg => by
      rw [World.frozen?_of_block (a := ⟨xb, 3, none⟩) (hg.block xb (by simp; omega) (fun e => NE6.out e.symm)), World.frozen?_of_block (a := ⟨xb, 3, none⟩) (Below.heap_alloc _ _ _ (by simpa using hxl))]
      simpa using froz_blk HXB.out 3)
    have k2 : (W3.alloc (.cells #[.int .i64 kd, .string c.name, .int .i64 (c.at_ : Int), .slice ad dl cd] 91)).cell? ⟨xb, 3, none⟩ = some (.slice al N cl) := (World.cell?_alloc_lt _ _ _ (by simpa using hxl)).trans p3
    clear hrow hM3 t3 hb3 hN hF2 g2 y1 yf yb hW3
    subst hlv
    go_wp2
    go_region_law
      (refine step_append_lies _ (by rfl) _ _ _ (by rfl) 0 91 i0 _ 4 56 Try.underlying71 hi0 hz0 hz1 hz2 rfl (by omega) (.slice al N cl) N cs (by rfl) ((own_grow HROW.out (Grow.refl W3).drew).alloc _) ⟨W3.heap.size, 0, none⟩ 1 1 [.int .i64 kd, .string c.name, .int .i64 (c.at_ : Int), .slice ad dl cd] (by rfl) (by rfl) (World.news_of_block (cs := #[.int .i64 kd, .string c.name, .int .i64 (c.at_ : Int), .slice ad dl cd]) (t := 91) (fr := (0, 0)) (heap_alloc_new W3.drew _)) (by intro u hu; simp at hu; rcases hu with rfl | rfl | rfl | rfl <;> rfl) (by omega) mx (by omega) (by simp) (W3.heap.size + 1) (by simp) ?_; intro gg8 cp8 wz hown8 hgrow8 hat8 hlt8; have c8 := hgrow8.cell (a := ⟨xb, 3, none⟩) (c5A.out _) (fun e => NE6.out e.symm); have f8 := FZ8.out _ _ hgrow8)
    all_goals
      have FN := Lib.hid (FIN.out _ _ _ hown8 hgrow8 hat8)
      clear hown8 hgrow8 hat8 c8 f8
      go_wp2
      go_ret
      exact ⟨rfl, FN.out.1, FN.out.2⟩
end Go.Proofs.Yticpldjcmhpjoaa
