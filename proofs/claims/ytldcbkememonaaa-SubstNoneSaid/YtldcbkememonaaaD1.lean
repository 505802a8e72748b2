/-
  The walk of of: the document's program of an expression.
-/
import Derived.Test.YtldcbkememonaaaC8

namespace Go.Proofs.Ytldcbkememonaaa
open Go.RowKit
set_option linter.unusedVariables false
set_option linter.unusedSimpArgs false

theorem Try.info26 : (Try.prog.info? 26).map (fun i => (i.zero, i.size, i.bytes)) = some (some (.agg #[.int .i64 0, .int .i64 0, .int .i64 0, .string ⟨#[]⟩]), 4, 40) := by kernel_rfl
theorem grown_blk {w w' : World} {row : Option Nat} {bn : Nat} {o : Obj} (h : w.grownBy w' row) (hb : w.heap[bn]? = some o) (hr : ∀ q, row = some q → bn < q) : w'.heap[bn]? = some o := by
  have hlt : bn < w.heap.size := lt_blk hb
  rw [h.block bn hlt (fun e => by have := hr bn e.symm; omega), hb]
theorem own_set {w : World} {B e s n : Nat} {v : Value} {xs : List Value} {bn j : Nat} (h : w.ownsRow B e s v n xs) (hb : bn < B) (x : Value) : (w.setCell ⟨bn, j, none⟩ x).ownsRow B e s v n xs := by
  refine World.ownsRow.kept h (row := some bn) ⟨rfl, rfl, rfl, by simp, fun k hk hkr => heap_setCell_other _ _ _ _ (fun e => hkr (by rw [e]))⟩ ?_
  rcases h.2 with ⟨h1, _⟩ | ⟨g, cap, cur, h1, h2, _⟩
  · left; rw [h1]; rfl
  · right
    rw [h1]
    intro e
    injection e with e
    have : g = bn := e
    omega
theorem Grow.trans' {a b c d : World} {row : Option Nat} (h : Grow a b) (k : Grow b c) (hg : c.grownBy d row) (hr : ∀ q, row = some q → a.heap.size ≤ q) : Grow a d :=
  Below.grown (Below.trans h (Below.mono k h.size)) hg (Nat.le_trans h.size k.size) hr
/-- what 'of' leaves -/
def OfP (s : ByteArray) (w : World) (e : Ending) (w' : World) : Prop :=
  ∃ lv, e = .returned (.tuple #[.agg #[.int .i64 (compF s).1, lv], .bool ((compF s).2.2 == 0)]) ∧ w'.ownsRow w.heap.size 26 4 lv (compF s).2.1.length (cellsI (compF s).2.1) ∧ Grow w w'
set_option maxRecDepth 100000 in
set_option maxHeartbeats 4000000 in
theorem of16_any (s : ByteArray) (w : World) (hs : s.size ≤ 10000) (SO : SetOk s) (hl : (compF s).2.1.length ≤ 30000) : Calls Try.prog 16 #[.string s] w (OfP s w) := by
  obtain ⟨i0, hi0, hz0, hz1, hz2⟩ := info_parts Try.info26
  have CM := Lib.hid (fun W => compile_any s W hs SO)
  unfold OfP
  unfold CompPost at CM
  obtain ⟨gq, hgq⟩ : ∃ gq, gq = (compF s).1 := ⟨_, rfl⟩
  obtain ⟨L, hL⟩ : ∃ L, L = (compF s).2.1 := ⟨_, rfl⟩
  obtain ⟨E, hE⟩ : ∃ E, E = (compF s).2.2 := ⟨_, rfl⟩
  rw [← hgq, ← hL, ← hE] at CM ⊢
  rw [← hL] at hl
  clear hgq hL hE SO
  obtain ⟨n, hn⟩ : ∃ n, n = L.length := ⟨_, rfl⟩
  rw [← hn] at CM hl ⊢
  have HN := Lib.hid hn
  clear hn
  have Z0 := Lib.hid (heap_alloc_new w (.cells #[.int .i64 0, .slice none 0 0] 24))
  go_enter Try.func16, Try.ntmps16
  go_wp2_with fail
  refine (CM.out _).mono ?_
  rintro e w2 ⟨lv, rfl, own, g2⟩
  obtain ⟨al, cl, rfl, _⟩ := own_shape own
  have z2 : w.heap.size < w2.heap.size := by have := Grow.size g2; simp at this; omega
  have RB := Lib.hid ((Below.block g2 _ (by simp)).trans Z0.out)
  have G2 := Lib.hid (((Grow.refl w).alloc _).trans g2)
  obtain ⟨w3, hw3⟩ : ∃ w3, w3 = w2.alloc (.cells #[.int .i64 gq, .slice al n cl] 33) := ⟨_, rfl⟩
  have z3 : w3.heap.size = w2.heap.size + 1 := by rw [hw3]; simp
  have S3 := Lib.hid (show w3.heap[w2.heap.size]? = some (.cells #[.int .i64 gq, .slice al n cl] 33 (0, 0)) from by rw [hw3]; exact heap_alloc_new w2 _)
  have G3 := Lib.hid (show Grow w2 w3 from by rw [hw3]; exact (Grow.refl _).alloc _)
  have OW := Lib.hid (own_grow own G3.out)
  clear own g2 CM Z0
  go_wp2
  rw [← hw3]
  clear hw3
  have H4 := Lib.hid (heap_alloc_new w3 (.cells #[.int .i64 gq, .slice none 0 0] 24))
  rw [z3] at H4
  have N4 := Lib.hid (World.ownsRow_nil (w3.alloc (.cells #[.int .i64 gq, .slice none 0 0] 24)) (w2.heap.size + 2) 26 4)
  go_loopw [7] (fun t wr => ∃ (j : Nat) (kv : Value), j ≤ n ∧ t = .int .i64 j ∧ Hid (wr.ownsRow (w2.heap.size + 2) 26 4 kv j (cellsI (L.take j))) ∧ Hid (wr.heap[w2.heap.size + 1]? = some (.cells #[.int .i64 gq, kv] 24 (0, 0))) ∧ Grow w3 wr) (fun t _ => n - (intOf t).toNat)
  case atStart => exact ⟨0, _, by omega, rfl, N4, H4, (Grow.refl _).alloc _⟩
  case round =>
    clear N4 H4
    obtain ⟨j, kv, hj, rfl, OK, HBN, hb⟩ := hrel
    have k0 : (0 : Int) ≤ (j : Int) := by omega
    have hbn : w2.heap.size + 1 < wr.heap.size := lt_blk HBN.out
    have hsb := (Below.block hb _ (show w2.heap.size < w3.heap.size by omega)).trans S3.out
    have d1 := cell_blk hsb 1
    simp at d1
    have HB := Lib.hid hb
    clear hb hsb
    by_cases hlt : j < n
    · have k1 : (j : Int) < (n : Int) := by omega
      obtain ⟨⟨op, x, y, ps⟩, hI⟩ : ∃ I, L[j]? = some I := ⟨_, List.getElem?_eq_getElem (by rw [← HN.out]; exact hlt)⟩
      obtain ⟨gl, cl', hv, _, hgl⟩ := OW.out.form (by omega)
      injection hv with hv1 _ hv2
      subst hv1 hv2
      obtain ⟨_, q0, q1, q2, q3⟩ := (rdI_own OW.out HN.out.symm).grow HB.out j _ hI
      rw [Nat.zero_add] at q0 q1 q2 q3
      simp only at q0 q1 q2 q3
      have HT := Lib.hid (take_snocI L j _ hI)
      obtain ⟨a0, c0, rfl, _⟩ := own_shape OK.out
      have e1 := cell_blk HBN.out 1
      have f1 := froz_blk HBN.out 1
      simp at e1
      have hglr : gl < wr.heap.size := by have := HB.out.size; omega
      have mx : j + 1 ≤ maxLen := by unfold maxLen; omega
      have c5A := Lib.hid (show ∀ ob, (wr.drew.alloc ob).cell? ⟨w2.heap.size + 1, 1, none⟩ = some (.slice a0 j c0) from fun ob => (World.cell?_alloc_lt _ _ _ (by simpa using hbn)).trans (by simpa using e1))
      have NE6 := Lib.hid (show (Value.slice a0 j c0).ownBlock ≠ some (w2.heap.size + 1) from fun e => by have := (OK.out.lt _ e).1; omega)
      have FZ8 := Lib.hid (show ∀ (ob : Obj) (w8 : World), (wr.drew.alloc ob).grownBy w8 (Value.slice a0 j c0).ownBlock → w8.frozen? ⟨w2.heap.size + 1, 1, none⟩ = false from fun ob w8 hg => by
        rw [World.frozen?_of_block (a := ⟨w2.heap.size + 1, 1, none⟩) (hg.block (w2.heap.size + 1) (by simp; omega) (fun e => NE6.out e.symm)), World.frozen?_of_block (a := ⟨w2.heap.size + 1, 1, none⟩) (Below.heap_alloc _ _ _ (by simpa using hbn))]
        simpa using f1)
      have hsz := hbn
      clear hI
      go_wp2
      go_region_law
        (refine step_append_lies _ (by rfl) _ _ _ (by rfl) (w2.heap.size + 2) 26 i0 _ 4 40 Try.underlying22 hi0 hz0 hz1 hz2 rfl (by omega) (.slice a0 j c0) j (cellsI (L.take j)) (by rfl) ((own_grow OK.out (Grow.refl wr).drew).alloc _) ⟨wr.heap.size, 0, none⟩ 1 1 (insC ⟨op, x, y, ps⟩) (by rfl) (by rfl) (World.news_of_block (cs := #[.int .i64 op, .int .i64 x, .int .i64 y, .string ps]) (t := 26) (fr := (0, 0)) (heap_alloc_new wr.drew _)) (insC_one _) (by omega) mx (by omega) (by simp; omega) (wr.heap.size + 1) (by simp) ?_; intro gg8 cp8 w8 hown8 hgrow8 hat8 hlt8; have c8 := hgrow8.cell (a := ⟨w2.heap.size + 1, 1, none⟩) (c5A.out _) (fun e => NE6.out e.symm); have f8 := FZ8.out _ _ hgrow8)
      all_goals
        have b8 := grown_blk hgrow8 ((Below.block ((Grow.refl wr).drew.alloc _) _ hbn).trans HBN.out) (fun q hq => by have := (OK.out.lt q hq).1; omega)
        have R1 := Lib.hid (own_set (j := 1) hown8 (show w2.heap.size + 1 < w2.heap.size + 2 by omega) (.slice (some ⟨gg8, 0, none⟩) (j + 1) cp8))
        have R1' : Hid ((w8.setCell ⟨w2.heap.size + 1, 1, none⟩ (.slice (some ⟨gg8, 0, none⟩) (j + 1) cp8)).ownsRow (w2.heap.size + 2) 26 4 (.slice (some ⟨gg8, 0, none⟩) (j + 1) cp8) (j + 1) (cellsI (L.take (j + 1)))) := Lib.hid (by
          rw [HT.out, cellsI_append, cellsI_one]; exact R1.out)
        have R2 := Lib.hid (show (w8.setCell ⟨w2.heap.size + 1, 1, none⟩ (.slice (some ⟨gg8, 0, none⟩) (j + 1) cp8)).heap[w2.heap.size + 1]? = some (.cells #[.int .i64 gq, .slice (some ⟨gg8, 0, none⟩) (j + 1) cp8] 24 (0, 0)) from by
          rw [Go.heap_setCell_same w8 _ 1 _ _ _ b8]; rfl)
        have R3 := Lib.hid (show Grow w3 (w8.setCell ⟨w2.heap.size + 1, 1, none⟩ (.slice (some ⟨gg8, 0, none⟩) (j + 1) cp8)) from
          (HB.out.trans' ((Grow.refl wr).drew.alloc _) hgrow8 (fun q hq => by have := (OK.out.lt q hq).1; omega)).setCell (by simp only; omega) _)
        clear hown8 hgrow8 b8 hat8 c8 f8 R1
        go_wp2
        go_roundw
        case rel => exact ⟨j + 1, _, by omega, by go_num, R1', R2, R3.out⟩
        case measure => simp [intOf]; omega
    · have k1 : ¬ (j : Int) < (n : Int) := by omega
      obtain rfl : j = n := by omega
      obtain ⟨a0, c0, rfl, _⟩ := own_shape OK.out
      have e0 := cell_blk HBN.out 0
      have e1 := cell_blk HBN.out 1
      simp at e0 e1
      have GG := Lib.hid (G3.out.trans HB.out)
      have hrb := (Below.block GG.out _ z2).trans RB.out
      have r0 := cell_blk hrb 0
      have r1 := cell_blk hrb 1
      have fr0 := froz_blk hrb 0
      have fr1 := froz_blk hrb 1
      simp at r0 r1
      have zr : w.heap.size < wr.heap.size := lt_blk hrb
      have FIN := Lib.hid (G2.out.trans GG.out)
      clear hrb
      go_wp2
      refine bodyPost_ret (v := .tuple #[.agg #[.int .i64 gq, .slice a0 j c0], .bool (E == 0)]) (by simp [results, Try.results16, go_sem, r0, r1, zr]) rfl ?_
      refine ⟨_, rfl, ?_, (FIN.out.setCell (Nat.le_refl _) _).setCell (Nat.le_refl _) _⟩
      have := own_set (j := 1) (own_set (j := 0) OK.out (show w.heap.size < w2.heap.size + 2 by omega) (.int .i64 gq)) (show w.heap.size < w2.heap.size + 2 by omega) (.slice a0 j c0)
      rw [List.take_of_length_le (by rw [← HN.out]; exact Nat.le_refl _)] at this
      exact Joins.ownsRow_le this (by omega)
end Go.Proofs.Ytldcbkememonaaa
