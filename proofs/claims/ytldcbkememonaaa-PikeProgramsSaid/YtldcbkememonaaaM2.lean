/-
  The reader in memory; the walk of 'lay'.
-/
import Derived.Test.YtldcbkememonaaaM1
import Derived.Deep.RegionLaw
import Derived.Laws.Rows
namespace Go.Proofs.Ytldcbkememonaaa
open Go.RowKit
set_option linter.unusedVariables false
set_option linter.unusedSimpArgs false

/-- the reader: its six cells, its instructions -/
structure RA (B r : Nat) (s : ByteArray) (st : RS) (v : Value) (w : World) : Prop where
  blk : w.heap[r]? = some (.cells #[.string s, .int .i64 st.at_, .int .i64 st.deep, .int .i64 st.err, .int .i64 st.grp, v] 97 (0, 0))
  own : w.ownsRow B 76 4 v st.L.length (cellsI st.L)
  rB : B ≤ r
theorem cell_blk {w : World} {r : Nat} {cs : Array Value} {t : TypeId} (h : w.heap[r]? = some (.cells cs t (0, 0))) (j : Nat) : w.cell? ⟨r, j, none⟩ = cs[j]? := by simp [World.cell?, h]
theorem froz_blk {w : World} {r : Nat} {cs : Array Value} {t : TypeId} (h : w.heap[r]? = some (.cells cs t (0, 0))) (j : Nat) : w.frozen? ⟨r, j, none⟩ = false := by simp [World.frozen?, h]
theorem lt_blk {w : World} {r : Nat} {o : Obj} (h : w.heap[r]? = some o) : r < w.heap.size := by
  rcases Nat.lt_or_ge r w.heap.size with h1 | h1
  · exact h1
  · rw [Array.getElem?_eq_none h1] at h; cases h
section
variable {B r : Nat} {s : ByteArray} {st : RS} {v : Value} {w : World}
theorem RA.c0 (h : RA B r s st v w) : w.cell? ⟨r, 0, none⟩ = some (.string s) := cell_blk h.blk 0
theorem RA.c1 (h : RA B r s st v w) : w.cell? ⟨r, 1, none⟩ = some (.int .i64 st.at_) := cell_blk h.blk 1
theorem RA.c2 (h : RA B r s st v w) : w.cell? ⟨r, 2, none⟩ = some (.int .i64 st.deep) := cell_blk h.blk 2
theorem RA.c3 (h : RA B r s st v w) : w.cell? ⟨r, 3, none⟩ = some (.int .i64 st.err) := cell_blk h.blk 3
theorem RA.c4 (h : RA B r s st v w) : w.cell? ⟨r, 4, none⟩ = some (.int .i64 st.grp) := cell_blk h.blk 4
theorem RA.c5 (h : RA B r s st v w) : w.cell? ⟨r, 5, none⟩ = some v := cell_blk h.blk 5
theorem RA.fz (h : RA B r s st v w) (j : Nat) : w.frozen? ⟨r, j, none⟩ = false := froz_blk h.blk j
theorem RA.lt (h : RA B r s st v w) : r < w.heap.size := lt_blk h.blk
theorem RA.ne (h : RA B r s st v w) : v.ownBlock ≠ some r := fun e => by
  rcases h.own.2 with ⟨h1, _⟩ | ⟨g, cap, cur, h1, _, h2, _⟩
  · rw [h1] at e; cases e
  · rw [h1] at e
    have e' : g = r := by simpa [Value.ownBlock] using e
    rw [e', h.blk] at h2
    injection h2 with h2
    injection h2 with _ h3
    exact absurd h3 (by decide)
end

/-- only block r, the row of v and new blocks were written -/
structure Fr (r : Nat) (v : Value) (w w' : World) : Prop where
  os : w'.os = w.os
  tape : w'.tape = w.tape
  output : w'.output = w.output
  size : w.heap.size ≤ w'.heap.size
  block : ∀ k, k < w.heap.size → k ≠ r → some k ≠ v.ownBlock → w'.heap[k]? = w.heap[k]?
/-- where a new value lies: in the row of the old one, or in new memory -/
def NewB (v v' : Value) (w : World) : Prop := ∀ g, v'.ownBlock = some g → v.ownBlock = some g ∨ w.heap.size ≤ g
theorem NewB.self (v : Value) (w : World) : NewB v v w := fun g h => .inl h
theorem NewB.trans {v v1 v2 : Value} {w w1 : World} (h : NewB v v1 w) (k : NewB v1 v2 w1) (hs : w.heap.size ≤ w1.heap.size) : NewB v v2 w := fun g hg => by
  rcases k g hg with h1 | h1
  · exact h g h1
  · exact .inr (Nat.le_trans hs h1)
theorem Fr.refl (r : Nat) (v : Value) (w : World) : Fr r v w w := ⟨rfl, rfl, rfl, Nat.le_refl _, fun _ _ _ _ => rfl⟩
theorem Fr.trans {r : Nat} {v v1 : Value} {a b c : World} (h : Fr r v a b) (k : Fr r v1 b c) (hn : NewB v v1 a) : Fr r v a c :=
  ⟨k.os.trans h.os, k.tape.trans h.tape, k.output.trans h.output, Nat.le_trans h.size k.size, fun i hi h1 h2 =>
    (k.block i (Nat.lt_of_lt_of_le hi h.size) h1 (fun e => by
      rcases hn i e.symm with h3 | h3
      · exact h2 h3.symm
      · omega)).trans (h.block i hi h1 h2)⟩
theorem Fr.of_below {r : Nat} {v : Value} {w w' : World} (h : Grow w w') : Fr r v w w' := ⟨Below.os h, Below.tape h, Below.output h, Below.size h, fun k hk _ _ => Below.block h k hk⟩
theorem Fr.below {r B : Nat} {v : Value} {w w' : World} (h : Fr r v w w') (hr : B ≤ r) (hv : ∀ g, v.ownBlock = some g → B ≤ g) (hB : B ≤ w.heap.size) : Below B w w' :=
  ⟨h.os, h.tape, h.output, h.size, fun k hk => h.block k (by omega) (by omega) (fun e => by have := hv k e.symm; omega)⟩
/-- the reader stays while other memory is written -/
theorem RA.grow {B r : Nat} {s : ByteArray} {st : RS} {v : Value} {w w' : World} (h : RA B r s st v w) (hg : Grow w w') : RA B r s st v w' :=
  ⟨(Below.block hg r h.lt).trans h.blk, own_grow h.own hg, h.rB⟩
/-- behind an append and its store -/
theorem RA.app {B r : Nat} {s : ByteArray} {st : RS} {v v' : Value} {w w1 w2 : World} {l : List Ins} (h : RA B r s st v w) (hg : Grow w w1) (hgr : w1.grownBy w2 v.ownBlock)
    (hown : w2.ownsRow B 76 4 v' (st.L.length + l.length) (cellsI st.L ++ cellsI l)) (hloc : ∀ g, v'.ownBlock = some g → v.ownBlock = some g ∨ w1.heap.size ≤ g) :
    RA B r s { st with L := st.L ++ l } v' (w2.setCell ⟨r, 5, none⟩ v') ∧ Fr r v w (w2.setCell ⟨r, 5, none⟩ v') ∧ NewB v v' w := by
  have hlt := h.lt
  have hs1 := hg.size
  have hb2 : w2.heap[r]? = w.heap[r]? := (hgr.block r (by omega) (fun e => h.ne e.symm)).trans (Below.block hg r hlt)
  have hb := hb2.trans h.blk
  have hne : v'.ownBlock ≠ some r := fun e => by
    rcases hloc r e with h1 | h1
    · exact h.ne h1
    · omega
  refine ⟨⟨?_, ?_, h.rB⟩, ⟨hgr.os.trans (Below.os hg), hgr.tape.trans (Below.tape hg), hgr.output.trans (Below.output hg), by simp; exact Nat.le_trans hs1 hgr.size, fun k hk h1 h2 => ?_⟩, fun g hgv => ?_⟩
  · rw [Go.heap_setCell_same w2 r 5 _ _ _ hb]; rfl
  · rw [cellsI_append, List.length_append]
    refine hown.kept (row := some r) ⟨rfl, rfl, rfl, by simp, fun k hk hkr => heap_setCell_other _ _ _ _ (fun e => hkr (by rw [e]))⟩ ?_
    right; exact hne
  · rw [heap_setCell_other _ _ _ _ h1, hgr.block k (by omega) h2]
    exact Below.block hg k hk
  · rcases hloc g hgv with h1 | h1
    · exact .inl h1
    · exact .inr (by omega)

set_option maxHeartbeats 2000000 in
theorem lay_any (B r : Nat) (s : ByteArray) (st : RS) (v : Value) (i : Ins) (w : World) (h : RA B r s st v w) (hn : st.L.length ≤ 100000) :
    Calls Try.prog 43 #[.pointer (some ⟨r, 0, none⟩), .agg #[.int .i64 i.op, .int .i64 i.x, .int .i64 i.y, .string i.ps]] w fun e w' => e = .returned (.int .i64 (st.L.length : Nat)) ∧ ∃ v', RA B r s (st.lay i) v' w' ∧ Fr r v w w' ∧ NewB v v' w := by
  obtain ⟨i0, hi0, hz0, hz1, hz2⟩ := info_parts Try.info76
  obtain ⟨p, x, y, ps⟩ := i
  obtain ⟨W1, hW⟩ : ∃ W1, W1 = w.alloc (.cells #[.int .i64 p, .int .i64 x, .int .i64 y, .string ps] 76) := ⟨_, rfl⟩
  have g1 : Grow w W1 := by rw [hW]; exact (Grow.refl w).alloc _
  have h1 := h.grow g1
  have x0 : W1.cell? ⟨w.heap.size, 0, none⟩ = some (.int .i64 p) := by rw [hW]; simp [go_sem]
  have x1 : W1.cell? ⟨w.heap.size, 1, none⟩ = some (.int .i64 x) := by rw [hW]; simp [go_sem]
  have x2 : W1.cell? ⟨w.heap.size, 2, none⟩ = some (.int .i64 y) := by rw [hW]; simp [go_sem]
  have x3 : W1.cell? ⟨w.heap.size, 3, none⟩ = some (.string ps) := by rw [hW]; simp [go_sem]
  obtain ⟨n, hN⟩ : ∃ n, n = st.L.length := ⟨_, rfl⟩
  have HN := Lib.hid hN
  have c5 := h1.c5
  have hs1 : w.heap.size < W1.heap.size := by rw [hW]; simp
  have hr1 := h1.lt
  have mx : n + 1 ≤ maxLen := by unfold maxLen; omega
  have hnn : n ≤ 100000 := by omega
  have H1 := Lib.hid h1
  have OW := Lib.hid (show W1.ownsRow B 76 4 v n (cellsI st.L) from hN ▸ h1.own)
  have G1 := Lib.hid g1
  have H := Lib.hid h
  have HW := Lib.hid hW
  rw [← hN]
  have HB : B ≤ W1.heap.size := by have := h1.rB; omega
  have c5A : ∀ ob, (W1.drew.alloc ob).cell? ⟨r, 5, none⟩ = some v := fun ob => (World.cell?_alloc_lt _ _ _ (by simpa using hr1)).trans (by simpa using c5)
  have FZ8 := Lib.hid (show ∀ (ob : Obj) (w8 : World), (W1.drew.alloc ob).grownBy w8 v.ownBlock → w8.frozen? ⟨r, 5, none⟩ = false from fun ob w8 hg => by
    rw [World.frozen?_of_block (a := ⟨r, 5, none⟩) (hg.block r (by simp; omega) (fun e => h1.ne e.symm)), World.frozen?_of_block (a := ⟨r, 5, none⟩) (Below.heap_alloc _ _ _ (by simpa using hr1))]
    simpa using h1.fz 5)
  clear h h1 g1 hW hN hn
  go_enter Try.func43, Try.ntmps43
  go_wp2
  rw [← HW.out]
  go_region_law
    (refine step_append_lies _ (by rfl) _ _ _ (by rfl) B 76 i0 _ 4 40 Try.underlying31 hi0 hz0 hz1 hz2 rfl (by omega) v n (cellsI st.L) (by rfl)
      ((own_grow OW.out (Grow.refl W1).drew).alloc _) ⟨W1.heap.size, 0, none⟩ 1 1 (insC ⟨p, x, y, ps⟩) (by rfl) (by rfl)
      (World.news_of_block (cs := #[.int .i64 p, .int .i64 x, .int .i64 y, .string ps]) (t := 76) (fr := (0, 0)) (heap_alloc_new W1.drew _)) (insC_one _) (by omega) mx (by omega) (by simp; omega) (W1.heap.size + 1) (by simp) ?_; intro gg8 cp8 w8 hown8 hgrow8 hat8 hlt8; have c8 := hgrow8.cell (a := ⟨r, 5, none⟩) (c5A _) (fun e => H1.out.ne e.symm); have f8 := FZ8.out _ _ hgrow8)
  all_goals
    have FIN := Lib.hid (H.out.app (l := [⟨p, x, y, ps⟩]) (v' := .slice (some ⟨gg8, 0, none⟩) (n + 1) cp8) ((G1.out.drew).alloc _) hgrow8 (by rw [← HN.out, cellsI_one]; exact hown8)
      (fun g hg => by
        have e : g = gg8 := by simpa [Value.ownBlock] using hg.symm
        subst e
        rcases hat8 with h8 | h8
        · exact .inl h8
        · exact .inr (by simp; omega)))
    clear hown8 hgrow8 hat8 hlt8 FZ8
    go_wp2
    go_ret
    exact ⟨ret_int (by simp), _, FIN.out⟩
end Go.Proofs.Ytldcbkememonaaa
