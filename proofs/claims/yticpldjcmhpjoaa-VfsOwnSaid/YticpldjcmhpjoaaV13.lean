/-
  The walk of does.
-/
import Derived.Test.YticpldjcmhpjoaaV12
import Derived.Deep.AppendLies
namespace Go.Proofs.Yticpldjcmhpjoaa
open Go.RowKit
set_option linter.unusedVariables false
set_option linter.unusedSimpArgs false

/-- an FS behind a change -/
def Fs.did (S : Fs) (c : Chg) : Fs := ⟨S.room, doesG S.now c, S.was, S.l ++ [c]⟩
/-- the row of changes grew by one -/
theorem FsM.snoc {P : Nat → Prop} {w w3 : World} {fb pb mb sb n m : Nat} {cv dv : Value} {cs : List Value} {S : Fs} (h : FsM P w fb pb mb sb n m cv cs S) (c : Chg) (g cp : Nat) (hd : BytesIn P w dv c.data)
    (hown : w3.ownsRow 0 68 4 (.slice (some ⟨g, 0, none⟩) (S.l.length + 1) cp) (S.l.length + 1) (cs ++ c.cells (c.kind : Int) dv)) (ht : Turn (fun k => cv.ownBlock = some k) w w3) (hg : cv.ownBlock = some g ∨ w.heap.size ≤ g) :
    FsM (More P w w3) (w3.setCell ⟨pb, 0, none⟩ (.slice (some ⟨g, 0, none⟩) (S.l.length + 1) cp)) fb pb mb sb n m (.slice (some ⟨g, 0, none⟩) (S.l.length + 1) cp) (cs ++ c.cells (c.kind : Int) dv) { S with l := S.l ++ [c] } ∧
    Turn P w (w3.setCell ⟨pb, 0, none⟩ (.slice (some ⟨g, 0, none⟩) (S.l.length + 1) cp)) := by
  obtain ⟨v3, hv3⟩ : ∃ v3, v3 = Value.slice (some ⟨g, 0, none⟩) (S.l.length + 1) cp := ⟨_, rfl⟩
  have hnf : cv.ownBlock ≠ some fb := fun e => by obtain ⟨cur, hc⟩ := own_lt h.row e; rw [h.hf] at hc; simp at hc
  have hnp : cv.ownBlock ≠ some pb := fun e => by obtain ⟨cur, hc⟩ := own_lt h.row e; rw [h.hp] at hc; simp at hc
  have hnm : cv.ownBlock ≠ some mb := fun e => by obtain ⟨cur, hc⟩ := own_lt h.row e; exact h.now.notcells hc rfl
  have hns : cv.ownBlock ≠ some sb := fun e => by obtain ⟨cur, hc⟩ := own_lt h.row e; exact h.was.notcells hc rfl
  have hpf : pb ≠ fb := by rintro rfl; have := h.hf; rw [h.hp] at this; simp at this
  have hf3 := (ht.block fb (lt_blk h.hf) hnf).trans h.hf
  have hp3 := (ht.block pb (lt_blk h.hp) hnp).trans h.hp
  have hcell : w3.cell? ⟨pb, 0, none⟩ = some cv := by rw [cell_blk hp3]; rfl
  have ht2 : Turn (fun k => k = pb) w3 (w3.setCell ⟨pb, 0, none⟩ v3) := Turn.of_set (a := ⟨pb, 0, none⟩) hcell (fun x hx => by
    rw [hcell] at hx
    injection hx with hx
    rcases h.row.2 with ⟨e, _⟩ | ⟨_, _, _, e, _⟩ <;> rw [e] at hx <;> cases hx)
  have hgp : g ≠ pb := by
    rintro rfl
    rcases hg with hg | hg
    · exact hnp hg
    · have := lt_blk h.hp; omega
  have hgl : g < w3.heap.size := by
    obtain ⟨cur, hc⟩ := own_lt (q := g) hown rfl
    exact lt_blk hc
  rw [← hv3] at hown ⊢
  refine ⟨⟨(ht2.block fb (lt_blk hf3) (fun e => hpf e.symm)).trans hf3, by rw [Go.heap_setCell_same w3 pb 0 _ _ _ hp3]; rfl, ((h.now.turn ht hnm).turn ht2 (fun e => h.now.notcells h.hp e.symm)).mono (fun k _ hp => .inl hp), ((h.was.turn ht hns).turn ht2 (fun e => h.was.notcells h.hp e.symm)).mono (fun k _ hp => .inl hp),
    own_kept (by simpa using hown) (fun q hq => ht2.block q (by rw [hv3] at hq; injection hq with hq; subst hq; exact hgl) (by rw [hv3] at hq; injection hq with hq; subst hq; exact hgp)), ?_, ?_, h.ne, .inl h.pf, .inl h.pp, .inl h.pm, .inl h.ps, ?_⟩, ?_⟩
  · refine ChgCs.append (((h.chg.turn ht).turn ht2).mono (fun k _ hp => .inl hp)) ?_
    have := ChgCs.cons (base := 0) c [] dv [] (((hd.turn ht).turn ht2).mono (Q := More P w w3) (fun k _ hp => .inl hp)) .nil
    simpa using this
  · intro e; simp at e
  · intro q hq
    rw [hv3] at hq
    injection hq with hq
    subst hq
    rcases hg with hg | hg
    · exact .inl (h.pr _ hg)
    · exact .inr ⟨hg, hgl⟩
  · exact (ht.mono (Q := P) (fun k _ e => h.pr k e)).trans ht2 (fun k _ e => by subst e; exact h.pp)
set_option maxRecDepth 20000 in
set_option maxHeartbeats 2000000 in
theorem does_any {P : Nat → Prop} (fb K : Nat) (S : Fs) (c : Chg) (dv : Value) (w : World) (hv : Valid S.now c) (hS : FsAt P w fb S K) (hK : K ≤ 1000000) (hs : c.name.size ≤ maxLen) (hd : BytesIn P w dv c.data)
    (hl : c.data.length ≤ 1073741824) (hg : Small S.now) :
    Calls Try.prog 31 #[.pointer (some ⟨fb, 0, none⟩), c.val dv] w fun e w' => e = .returned (.tuple #[]) ∧ FsAt (More P w w') w' fb (S.did c) (K + 1) ∧ Turn P w w' := by
  obtain ⟨pb, mb, sb, n, m, cv, cs, hM, hn, hm⟩ := hS
  obtain ⟨W1, hW1⟩ : ∃ W1, W1 = w.alloc (.cells #[.int .i64 (c.kind : Int), .string c.name, .int .i64 (c.at_ : Int), dv] 68) := ⟨_, rfl⟩
  have hg1 : Grow w W1 := by rw [hW1]; exact (Grow.refl w).alloc _
  have hb1 := heap_alloc_new w (.cells #[.int .i64 (c.kind : Int), .string c.name, .int .i64 (c.at_ : Int), dv] 68)
  rw [← hW1] at hb1
  have hM1 := hM.turn (Turn.of_grow (P := fun _ => False) hg1) (fun _ _ h => h)
  have AP := Lib.hid (applies_any fb mb n S.now c dv W1 hv (by rw [cell_blk hM1.hf]; rfl) hM1.now (by unfold maxLen; omega) hs (hd.turn (Turn.of_grow (P := P) hg1)) hl hg)
  have HM := Lib.hid hM1
  have HB1 := Lib.hid hb1
  have HG1 := Lib.hid hg1
  have HD := Lib.hid hd
  have HW := Lib.hid hW1
  have HMK := Lib.hid hm
  have HN := Lib.hid hn
  obtain ⟨kd, hkd⟩ : ∃ kd : Int, kd = (c.kind : Int) := ⟨_, rfl⟩
  unfold Chg.val at AP ⊢
  clear hM hM1 hb1 hg1 hd hv hs hl hg hn hm hkd hW1
  go_enter Try.func31, Try.ntmps31
  go_wp2_with fail
  rw [← HW.out]
  refine AP.out.mono ?_
  rintro e w2 ⟨rfl, t2, n', hn', hF2⟩
  have hM2 : FsM (More P W1 w2) w2 fb pb mb sb n' m cv cs { S with now := doesG S.now c } := by
    have hM := HM.out
    have hm1 : fb ≠ mb := fun e => hM.now.notcells hM.hf e
    have hm2 : pb ≠ mb := fun e => hM.now.notcells hM.hp e
    refine ⟨(t2.block fb (lt_blk hM.hf) hm1).trans hM.hf, (t2.block pb (lt_blk hM.hp) hm2).trans hM.hp, hF2, (hM.was.turn t2 (fun e => hM.ne e.symm)).mono (fun k _ hp => .inl hp),
      own_kept hM.row (fun q e => by obtain ⟨cur, hc⟩ := own_lt hM.row e; exact t2.block q (lt_blk hc) (fun e => hM.now.notcells hc e)), (hM.chg.turn t2).mono (fun k _ hp => .inl hp), hM.nil, hM.ne, .inl hM.pf, .inl hM.pp, .inl hM.pm, .inl hM.ps, fun q e => .inl (hM.pr q e)⟩
  have hbx : w2.heap[w.heap.size]? = some (.cells #[.int .i64 (c.kind : Int), .string c.name, .int .i64 (c.at_ : Int), dv] 68) := (t2.block _ (lt_blk HB1.out) (fun e => HM.out.now.notcells HB1.out e)).trans HB1.out
  obtain ⟨N, hN⟩ : ∃ N, N = S.l.length := ⟨_, rfl⟩
  have HNL := Lib.hid hN
  have hrow := hM2.row
  rw [show ({ S with now := doesG S.now c } : Fs).l.length = N from hN.symm] at hrow
  have hrow1 := hM2.turn (Turn.of_grow (P := fun _ => False) ((Grow.refl w2).drew.alloc (.cells #[.int .i64 (c.kind : Int), .string c.name, .int .i64 (c.at_ : Int), dv] 68))) (fun _ _ h => h)
  have hN9 : N ≤ 1000000 := by have := HMK.out; omega
  obtain ⟨ac, cc, hcv⟩ : ∃ ac cc, cv = .slice ac N cc := by
    rcases hrow.2 with ⟨h1, h2⟩ | ⟨g, cap, cur, h1, _⟩
    · exact ⟨none, 0, by rw [h1, h2]⟩
    · exact ⟨_, cap, h1⟩
  have hp0 : w2.cell? ⟨pb, 0, none⟩ = some (.slice ac N cc) := by rw [cell_blk hM2.hp, ← hcv]; rfl
  have hf0 : w2.cell? ⟨fb, 0, none⟩ = some (.pointer (some ⟨pb, 0, none⟩)) := by rw [cell_blk hM2.hf]; rfl
  have hx0 := cell_blk hbx 0
  have hx1 := cell_blk hbx 1
  have hx2 := cell_blk hbx 2
  have hx3 := cell_blk hbx 3
  simp at hx0 hx1 hx2 hx3
  have hpl : pb < w2.heap.size := lt_of_cell hp0
  have mx : N + 1 ≤ maxLen := by unfold maxLen; omega
  obtain ⟨i0, hi0, hz0, hz1, hz2⟩ := info_parts (show (Try.prog.info? 68).map (fun i => (i.zero, i.size, i.bytes)) = some (some (.agg #[.int .i64 0, .string ⟨#[]⟩, .int .i64 0, .slice none 0 0]), 4, 56) by kernel_rfl)
  have hNE : cv.ownBlock ≠ some pb := fun e => by obtain ⟨cur, hc⟩ := own_lt hrow e; rw [hM2.hp] at hc; simp at hc
  have NE6 := Lib.hid hNE
  have R0 := Lib.hid hM2.row0
  have HM2 := Lib.hid hM2
  have T2 := Lib.hid t2
  have HBX := Lib.hid hbx
  have HROW := Lib.hid hrow
  have c5A := Lib.hid (show ∀ ob, (w2.drew.alloc ob).cell? ⟨pb, 0, none⟩ = some (.slice ac N cc) from fun ob => (World.cell?_alloc_lt _ _ _ (by simpa using hpl)).trans (by simpa using hp0))
  have FZ8 := Lib.hid (show ∀ (ob : Obj) (w8 : World), (w2.drew.alloc ob).grownBy w8 cv.ownBlock → w8.frozen? ⟨pb, 0, none⟩ = false from fun ob w8 hg => by
    rw [World.frozen?_of_block (a := ⟨pb, 0, none⟩) (hg.block pb (by simp; omega) (fun e => NE6.out e.symm)), World.frozen?_of_block (a := ⟨pb, 0, none⟩) (Below.heap_alloc _ _ _ (by simpa using hpl))]
    simpa using froz_blk HM2.out.hp 0)
  have HCV := Lib.hid hcv
  have hfl : fb < w2.heap.size := lt_of_cell hf0
  have k1 : (w2.alloc (.cells #[.int .i64 (c.kind : Int), .string c.name, .int .i64 (c.at_ : Int), dv] 68)).cell? ⟨fb, 0, none⟩ = some (.pointer (some ⟨pb, 0, none⟩)) := (World.cell?_alloc_lt _ _ _ (by simpa using hfl)).trans hf0
  have k2 : (w2.alloc (.cells #[.int .i64 (c.kind : Int), .string c.name, .int .i64 (c.at_ : Int), dv] 68)).cell? ⟨pb, 0, none⟩ = some (.slice ac N cc) := (World.cell?_alloc_lt _ _ _ (by simpa using hpl)).trans hp0
  have NE7 := Lib.hid (show cv.ownBlock ≠ some fb from fun e => by obtain ⟨cur, hc⟩ := own_lt HROW.out e; rw [HM2.out.hf] at hc; simp at hc)
  obtain ⟨ob, hob⟩ : ∃ ob, ob = Obj.cells #[.int .i64 (c.kind : Int), .string c.name, .int .i64 (c.at_ : Int), dv] 68 := ⟨_, rfl⟩
  have FIN := Lib.hid (show ∀ (wz : World) (gg cp : Nat), wz.ownsRow 0 68 4 (.slice (some ⟨gg, 0, none⟩) (N + 1) cp) (N + 1) (cs ++ [.int .i64 (c.kind : Int), .string c.name, .int .i64 (c.at_ : Int), dv]) →
      (w2.drew.alloc (.cells #[.int .i64 (c.kind : Int), .string c.name, .int .i64 (c.at_ : Int), dv] 68)).grownBy wz cv.ownBlock → (cv.ownBlock = some gg ∨ gg = w2.heap.size + 1) →
      FsAt (More P w (wz.setCell ⟨pb, 0, none⟩ (.slice (some ⟨gg, 0, none⟩) (N + 1) cp))) (wz.setCell ⟨pb, 0, none⟩ (.slice (some ⟨gg, 0, none⟩) (N + 1) cp)) fb (S.did c) (K + 1) ∧ Turn P w (wz.setCell ⟨pb, 0, none⟩ (.slice (some ⟨gg, 0, none⟩) (N + 1) cp)) from by
    intro wz gg cp h1 h2 h3
    rw [← hob] at h2
    rw [← hob] at hrow1
    have gA : Grow w2 (w2.drew.alloc ob) := (Grow.refl w2).drew.alloc _
    have tw : Turn P w w2 := (Turn.of_grow (P := P) HG1.out).trans T2.out (fun k _ e => by subst e; exact HM.out.pm)
    have tA : Turn P w (w2.drew.alloc ob) := tw.trans (Turn.of_grow (P := P) gA) (fun _ _ h => h)
    have hs1 : (w2.drew.alloc ob).heap.size = w2.heap.size + 1 := by simp
    have hd' : BytesIn (More P W1 w2) (w2.drew.alloc ob) dv c.data := (HD.out.turn tA).mono (fun k _ h => .inl h)
    rw [hN] at h1 ⊢
    obtain ⟨r1, r2⟩ := hrow1.snoc c gg cp hd' h1 (Turn.of_grown h2 (fun q hq x => hrow1.row0 q hq x)) (by rw [hs1]; rcases h3 with h | h; exact .inl h; exact .inr (by omega))
    have tB := tA.trans r2 (fun k hk h => by
      rcases h with h | ⟨h, _⟩
      · exact h
      · have := Grow.size HG1.out; omega)
    refine ⟨⟨pb, mb, sb, n', m, _, _, r1.mono (fun k hk h => ?_), by have := HN.out; omega, by have := HMK.out; simp [Fs.did]; omega⟩, tB⟩
    unfold More at h ⊢
    have q1 := Grow.size HG1.out
    have q2 := T2.out.size
    rcases h with (h | ⟨h, h'⟩) | ⟨h, h'⟩
    · exact .inl h
    · exact .inr ⟨by omega, hk⟩
    · exact .inr ⟨by omega, hk⟩)
  clear hob ob
  clear hrow hrow1 hM2 hbx t2 hNE hF2 hN
  subst hcv
  go_wp2
  go_region_law
    (refine step_append_lies _ (by rfl) _ _ _ (by rfl) 0 68 i0 _ 4 56 Try.underlying57 hi0 hz0 hz1 hz2 rfl (by omega) (.slice ac N cc) N cs (by rfl) ((own_grow HROW.out (Grow.refl w2).drew).alloc _) ⟨w2.heap.size, 0, none⟩ 1 1 [.int .i64 (c.kind : Int), .string c.name, .int .i64 (c.at_ : Int), dv] (by rfl) (by rfl) (World.news_of_block (cs := #[.int .i64 (c.kind : Int), .string c.name, .int .i64 (c.at_ : Int), dv]) (t := 68) (fr := (0, 0)) (heap_alloc_new w2.drew _)) (by intro u hu; simp at hu; rcases hu with rfl | rfl | rfl | rfl <;> first | rfl | exact HD.out.one) (by omega) mx (by omega) (by simp) (w2.heap.size + 1) (by simp) ?_; intro gg8 cp8 wz hown8 hgrow8 hat8 hlt8; have c8 := hgrow8.cell (a := ⟨pb, 0, none⟩) (c5A.out _) (fun e => NE6.out e.symm); have f8 := FZ8.out _ _ hgrow8; have c9 := hgrow8.cell (a := ⟨fb, 0, none⟩) k1 (fun e => NE7.out e.symm))
  all_goals
    have FN := Lib.hid (FIN.out _ _ _ hown8 hgrow8 hat8)
    clear hown8 hgrow8 hat8 c8 f8 c9
    go_wp2
    go_end0
    exact ⟨rfl, FN.out⟩
end Go.Proofs.Yticpldjcmhpjoaa
