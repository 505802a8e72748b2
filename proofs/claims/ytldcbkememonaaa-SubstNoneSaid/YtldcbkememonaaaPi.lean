/-
  The walk of like: a program as the document's. / The walk of numbers; what known comes to. / The walks of both Group.
-/
import Derived.Test.YtldcbkememonaaaD1
import Derived.Test.YtldcbkememonaaaPg
namespace Go.Proofs.Ytldcbkememonaaa
open Go.RowKit
set_option linter.unusedVariables false
set_option linter.unusedSimpArgs false

/-- a program's instructions read out of a row of rex's -/
theorem rdI_own26 {w : World} {B g n c : Nat} {L : List Ins} (h : w.ownsRow B 26 4 (.slice (some ⟨g, 0, none⟩) n c) n (cellsI L)) (hl : L.length = n) : RdI L g 0 w := fun k i hk => by
  have hk1 : k < n := by
    rw [← hl]
    exact (List.getElem?_eq_some_iff.1 hk).1
  have hg : g < w.heap.size := (h.lt g rfl).2
  refine ⟨hg, ?_, ?_, ?_, ?_⟩
  · rw [Nat.zero_add, World.ownsRow.cellAt h (k * 4) (by omega)]; exact cellsI_at L k i hk 0 (by omega)
  · rw [Nat.zero_add, World.ownsRow.cellAt h (k * 4 + 1) (by omega)]; exact cellsI_at L k i hk 1 (by omega)
  · rw [Nat.zero_add, World.ownsRow.cellAt h (k * 4 + 2) (by omega)]; exact cellsI_at L k i hk 2 (by omega)
  · rw [Nat.zero_add, World.ownsRow.cellAt h (k * 4 + 3) (by omega)]; exact cellsI_at L k i hk 3 (by omega)
def LikeP (L : List Ins) (gr : Int) (w : World) (e : Ending) (w' : World) : Prop := ∃ lv, e = .returned (.agg #[.int .i64 gr, lv]) ∧ w'.ownsRow w.heap.size 76 4 lv L.length (cellsI L) ∧ Grow w w'
set_option maxRecDepth 100000 in
set_option maxHeartbeats 4000000 in
theorem like_any (L : List Ins) (gr : Int) (w : World) (a : Option Addr) (c g o : Nat) (hrd : RdI L g o w) (had : 0 < L.length → a = some ⟨g, o, none⟩) (hl : L.length ≤ 30000) : Calls Try.prog 13 #[.agg #[.int .i64 gr, .slice a L.length c]] w (LikeP L gr w) := by
  obtain ⟨i0, hi0, hz0, hz1, hz2⟩ := info_parts Try.info76
  unfold LikeP
  obtain ⟨n, hn⟩ : ∃ n, n = L.length := ⟨_, rfl⟩
  rw [← hn] at hl had ⊢
  have HN := Lib.hid hn
  have HRD := Lib.hid hrd
  have HAD := Lib.hid had
  clear hn hrd had
  obtain ⟨W2, hW2⟩ : ∃ W2, W2 = (w.alloc (.cells #[.int .i64 gr, .slice a n c] 24)).alloc (.cells #[.int .i64 0, .slice none 0 0] 33) := ⟨_, rfl⟩
  have z2 : W2.heap.size = w.heap.size + 2 := by rw [hW2]; simp
  have B24 := Lib.hid (show W2.heap[w.heap.size]? = some (.cells #[.int .i64 gr, .slice a n c] 24 (0, 0)) from by
    rw [hW2, Below.heap_alloc _ _ _ (by simp)]; exact heap_alloc_new w _)
  have B33 := Lib.hid (show W2.heap[w.heap.size + 1]? = some (.cells #[.int .i64 0, .slice none 0 0] 33 (0, 0)) from by
    rw [hW2]; exact heap_alloc_two w _ _)
  have G2 := Lib.hid (show Grow w W2 from by rw [hW2]; exact ((Grow.refl w).alloc _).alloc _)
  obtain ⟨w3, hw3⟩ : ∃ w3, w3 = W2.alloc (.cells #[.int .i64 gr, .slice none 0 0] 33) := ⟨_, rfl⟩
  have z3 : w3.heap.size = w.heap.size + 3 := by rw [hw3]; simp [z2]
  have G3 := Lib.hid (show Grow W2 w3 from by rw [hw3]; exact (Grow.refl _).alloc _)
  have H4 := Lib.hid (show w3.heap[w.heap.size + 2]? = some (.cells #[.int .i64 gr, .slice none 0 0] 33 (0, 0)) from by rw [hw3, ← z2]; exact heap_alloc_new W2 _)
  have HW2 := Lib.hid hW2
  have HW3 := Lib.hid hw3
  clear hW2 hw3
  have b24 := cell_blk B24.out 0
  have lt24 := lt_blk B24.out
  simp at b24
  go_enter Try.func13, Try.ntmps13
  go_wp2
  rw [← HW2.out]
  rw [← HW3.out]
  have N4 := Lib.hid (World.ownsRow_nil w3 (w.heap.size + 3) 76 4)
  go_loopw [4] (fun t wr => ∃ (j : Nat) (kv : Value), j ≤ n ∧ t = .int .i64 j ∧ Hid (wr.ownsRow (w.heap.size + 3) 76 4 kv j (cellsI (L.take j))) ∧ Hid (wr.heap[w.heap.size + 2]? = some (.cells #[.int .i64 gr, kv] 33 (0, 0))) ∧ Hid (Below (w.heap.size + 2) w3 wr)) (fun t _ => n - (intOf t).toNat)
  case atStart => exact ⟨0, _, by omega, rfl, N4, H4, Lib.hid (Below.refl _ _)⟩
  case round =>
    clear N4 H4 b24
    obtain ⟨j, kv, hj, rfl, OK, HBN, HB⟩ := hrel
    have k0 : (0 : Int) ≤ (j : Int) := by omega
    have hbn : w.heap.size + 2 < wr.heap.size := lt_blk HBN.out
    have hsb := (HB.out.block w.heap.size (by omega)).trans ((Below.block G3.out _ (by omega)).trans B24.out)
    have d1 := cell_blk hsb 1
    simp at d1
    have l24 : w.heap.size < wr.heap.size := lt_blk hsb
    have HSB := Lib.hid hsb
    clear hsb
    by_cases hlt : j < n
    · have k1 : (j : Int) < (n : Int) := by omega
      obtain ⟨⟨op, x, y, ps⟩, hI⟩ : ∃ I, L[j]? = some I := ⟨_, List.getElem?_eq_getElem (by rw [← HN.out]; exact hlt)⟩
      have ha := HAD.out (by omega)
      subst ha
      have gw : Grow w w3 := G2.out.trans (Below.mono G3.out (by omega))
      have gww : Grow w wr := Below.trans gw (HB.out.mono (by omega))
      obtain ⟨q0, q1, q2, q3, q4⟩ := (HRD.out.grow gww) j _ hI
      simp only at q1 q2 q3 q4
      have HT := Lib.hid (take_snocI L j _ hI)
      obtain ⟨a0, c0, rfl, _⟩ := own_shape OK.out
      have e1 := cell_blk HBN.out 1
      have f1 := froz_blk HBN.out 1
      simp at e1
      have mx : j + 1 ≤ maxLen := by unfold maxLen; omega
      have c5A := Lib.hid (show ∀ ob, (wr.drew.alloc ob).cell? ⟨w.heap.size + 2, 1, none⟩ = some (.slice a0 j c0) from fun ob => (World.cell?_alloc_lt _ _ _ (by simpa using hbn)).trans (by simpa using e1))
      have NE6 := Lib.hid (show (Value.slice a0 j c0).ownBlock ≠ some (w.heap.size + 2) from fun e => by have := (OK.out.lt _ e).1; omega)
      have FZ8 := Lib.hid (show ∀ (ob : Obj) (w8 : World), (wr.drew.alloc ob).grownBy w8 (Value.slice a0 j c0).ownBlock → w8.frozen? ⟨w.heap.size + 2, 1, none⟩ = false from fun ob w8 hg => by
        rw [World.frozen?_of_block (a := ⟨w.heap.size + 2, 1, none⟩) (hg.block (w.heap.size + 2) (by simp; omega) (fun e => NE6.out e.symm)), World.frozen?_of_block (a := ⟨w.heap.size + 2, 1, none⟩) (Below.heap_alloc _ _ _ (by simpa using hbn))]
        simpa using f1)
      have hsz := hbn
      have Z3 := Lib.hid z3
      have Z2 := Lib.hid z2
      clear hI gw gww z2 z3
      go_wp2
      go_region_law
        (refine step_append_lies _ (by rfl) _ _ _ (by rfl) (w.heap.size + 3) 76 i0 _ 4 40 Try.underlying31 hi0 hz0 hz1 hz2 rfl (by omega) (.slice a0 j c0) j (cellsI (L.take j)) (by rfl) ((own_grow OK.out (Grow.refl wr).drew).alloc _) ⟨wr.heap.size, 0, none⟩ 1 1 (insC ⟨op, x, y, ps⟩) (by rfl) (by rfl) (World.news_of_block (cs := #[.int .i64 op, .int .i64 x, .int .i64 y, .string ps]) (t := 76) (fr := (0, 0)) (heap_alloc_new wr.drew _)) (insC_one _) (by omega) mx (by omega) (by simp; omega) (wr.heap.size + 1) (by simp) ?_; intro gg8 cp8 w8 hown8 hgrow8 hat8 hlt8; have c8 := hgrow8.cell (a := ⟨w.heap.size + 2, 1, none⟩) (c5A.out _) (fun e => NE6.out e.symm); have f8 := FZ8.out _ _ hgrow8)
      all_goals
        have b8 := grown_blk hgrow8 ((Below.block ((Grow.refl wr).drew.alloc _) _ hbn).trans HBN.out) (fun q hq => by have := (OK.out.lt q hq).1; omega)
        have R1 := Lib.hid (own_set (j := 1) hown8 (show w.heap.size + 2 < w.heap.size + 3 by omega) (.slice (some ⟨gg8, 0, none⟩) (j + 1) cp8))
        have R1' : Hid ((w8.setCell ⟨w.heap.size + 2, 1, none⟩ (.slice (some ⟨gg8, 0, none⟩) (j + 1) cp8)).ownsRow (w.heap.size + 3) 76 4 (.slice (some ⟨gg8, 0, none⟩) (j + 1) cp8) (j + 1) (cellsI (L.take (j + 1)))) := Lib.hid (by
          rw [HT.out, cellsI_append, cellsI_one]; exact R1.out)
        have R2 := Lib.hid (show (w8.setCell ⟨w.heap.size + 2, 1, none⟩ (.slice (some ⟨gg8, 0, none⟩) (j + 1) cp8)).heap[w.heap.size + 2]? = some (.cells #[.int .i64 gr, .slice (some ⟨gg8, 0, none⟩) (j + 1) cp8] 33 (0, 0)) from by
          rw [Go.heap_setCell_same w8 _ 1 _ _ _ b8]; rfl)
        have R3 := Lib.hid (show Below (w.heap.size + 2) w3 (w8.setCell ⟨w.heap.size + 2, 1, none⟩ (.slice (some ⟨gg8, 0, none⟩) (j + 1) cp8)) from
          (Below.grown ((HB.out.drew).alloc (by simp; omega) _) hgrow8 (by simp; omega) (fun q hq => by have := (OK.out.lt q hq).1; omega)).setCell (by simp only; omega) _)
        clear hown8 hgrow8 b8 hat8 c8 f8 R1
        go_wp2
        go_roundw
        case rel => exact ⟨j + 1, _, by omega, by go_num, R1', R2, R3⟩
        case measure => simp [intOf]; omega
    · have k1 : ¬ (j : Int) < (n : Int) := by omega
      obtain rfl : j = n := by omega
      obtain ⟨a0, c0, rfl, _⟩ := own_shape OK.out
      have e0 := cell_blk HBN.out 0
      have e1 := cell_blk HBN.out 1
      simp at e0 e1
      have hrb := (HB.out.block (w.heap.size + 1) (by omega)).trans ((Below.block G3.out _ (by omega)).trans B33.out)
      have r0 := cell_blk hrb 0
      have r1 := cell_blk hrb 1
      have fr0 := froz_blk hrb 0
      have fr1 := froz_blk hrb 1
      simp at r0 r1
      have zr : w.heap.size + 1 < wr.heap.size := lt_blk hrb
      have FIN := Lib.hid (show Grow w wr from Below.trans (G2.out.trans (Below.mono G3.out (by omega))) (HB.out.mono (by omega)))
      have Z3 := Lib.hid z3
      have Z2 := Lib.hid z2
      clear hrb z2 z3
      go_wp2
      refine bodyPost_ret (v := .agg #[.int .i64 gr, .slice a0 j c0]) (by simp [results, Try.results13, go_sem, r0, r1, zr]) rfl ?_
      refine ⟨_, rfl, ?_, (FIN.out.setCell (by simp only; omega) _).setCell (by simp only; omega) _⟩
      have := own_set (j := 1) (own_set (j := 0) OK.out (show w.heap.size + 1 < w.heap.size + 3 by omega) (.int .i64 gr)) (show w.heap.size + 1 < w.heap.size + 3 by omega) (.slice a0 j c0)
      rw [List.take_of_length_le (by rw [← HN.out]; exact Nat.le_refl _)] at this
      exact Joins.ownsRow_le this (by omega)
end Go.Proofs.Ytldcbkememonaaa

namespace Go.Proofs.Ytldcbkememonaaa
open Go.RowKit
set_option linter.unusedVariables false
set_option linter.unusedSimpArgs false

def NumP (b : Bool) (w : World) (e : Ending) (w' : World) : Prop := e = .returned (.bool b) ∧ Grow w w'
set_option maxHeartbeats 1000000 in
theorem numbers_any (xs ys : List Int) (v u : Value) (w : World) (h1 : IntsIn xs v w) (h2 : IntsIn ys u w) (hn : xs.length ≤ 100000) (hm : ys.length ≤ 100000) : Calls Try.prog 14 #[v, u] w (NumP (decide (xs = ys)) w) := by
  obtain ⟨a, c, hv⟩ := h1.shape
  obtain ⟨b, d, hu⟩ := h2.shape
  obtain ⟨n, hN⟩ : ∃ n, n = xs.length := ⟨_, rfl⟩
  obtain ⟨m, hM⟩ : ∃ m, m = ys.length := ⟨_, rfl⟩
  rw [← hN] at hv hn
  rw [← hM] at hu hm
  subst hv hu
  have HN := Lib.hid hN
  have HM := Lib.hid hM
  have H1 := Lib.hid h1
  have H2 := Lib.hid h2
  clear hN hM h1 h2
  by_cases hnm : n = m
  · subst hnm
    go_enter Try.func14, Try.ntmps14
    go_wp2
    go_loopw [5] (fun t wr => ∃ (j : Nat), j ≤ n ∧ t = .int .i64 j ∧ Hid (xs.take j = ys.take j) ∧ Hid (Grow w wr)) (fun t _ => n - (intOf t).toNat)
    case atStart => exact ⟨0, by omega, rfl, Lib.hid rfl, Lib.hid (Grow.refl w)⟩
    case round =>
      obtain ⟨j, hj, rfl, HT, HG⟩ := hrel
      have k0 : (0 : Int) ≤ (j : Int) := by omega
      have k5 : (j : Int) ≤ 100000 := by omega
      by_cases hlt : j < n
      · have k1 : (j : Int) < (n : Int) := by omega
        obtain ⟨x, hx⟩ : ∃ x, xs[j]? = some x := ⟨_, List.getElem?_eq_getElem (by rw [← HN.out]; exact hlt)⟩
        obtain ⟨y, hy⟩ : ∃ y, ys[j]? = some y := ⟨_, List.getElem?_eq_getElem (by rw [← HM.out]; exact hlt)⟩
        obtain ⟨g1, c1, e1, _, l1⟩ := (H1.out.grow HG.out).form (by rw [← HN.out]; omega)
        obtain ⟨g2, c2, e2, _, l2⟩ := (H2.out.grow HG.out).form (by rw [← HM.out]; omega)
        injection e1 with e1 _ e1c
        injection e2 with e2 _ e2c
        subst e1 e1c e2 e2c
        have x1 : wr.cell? ⟨g1, j, none⟩ = some (.int .i64 x) := by
          have h := H1.out.grow HG.out
          unfold IntsIn at h
          rw [← HN.out] at h
          rw [World.ownsRow.cellAt h j (by omega), List.getElem?_map, hx]; rfl
        have y1 : wr.cell? ⟨g2, j, none⟩ = some (.int .i64 y) := by
          have h := H2.out.grow HG.out
          unfold IntsIn at h
          rw [← HM.out] at h
          rw [World.ownsRow.cellAt h j (by omega), List.getElem?_map, hy]; rfl
        have HX := Lib.hid hx
        have HY := Lib.hid hy
        clear hx hy
        cases hxy : (x == y) with
        | true =>
          have hxy2 : (x != y) = false := by simpa [bne] using hxy
          have HXY := Lib.hid (show x = y from by simpa using hxy)
          clear hxy
          go_wp2
          go_quiet (fail)
          go_wp2
          go_roundw
          case rel => exact ⟨j + 1, by omega, by go_num, Lib.hid (by
            have a1 := HX.out
            have a2 := HY.out
            rw [← HXY.out] at a2
            rw [List.take_add_one, List.take_add_one, HT.out, a1, a2]), Lib.hid (below_drewN HG.out _)⟩
          case measure => simp [intOf]; omega
        | false =>
          have hxy2 : (x != y) = true := by simpa [bne] using hxy
          have HXY := Lib.hid (show ¬ x = y from by simpa using hxy)
          clear hxy
          go_wp2
          go_quiet (fail)
          go_wp2
          go_ret
          refine ⟨ret_bool ?_, below_drewN HG.out _⟩
          symm
          rw [decide_eq_false_iff_not]
          intro e
          have a1 := HX.out
          rw [e, HY.out] at a1
          injection a1 with a1
          exact HXY.out a1.symm
      · have k1 : ¬ (j : Int) < (n : Int) := by omega
        obtain rfl : n = j := by omega
        go_wp2
        go_ret
        refine ⟨ret_bool ?_, HG.out⟩
        symm
        rw [decide_eq_true_iff]
        have := HT.out
        rw [List.take_of_length_le (by rw [← HN.out]; exact Nat.le_refl _), List.take_of_length_le (by rw [← HM.out]; exact Nat.le_refl _)] at this
        exact this
  · have k1 : ((n : Int) != (m : Int)) = true := by simp; omega
    have k2 : ((n : Int) == (m : Int)) = false := by simp; omega
    have HNM := Lib.hid hnm
    clear hnm
    go_enter Try.func14, Try.ntmps14
    go_wp2
    go_ret
    refine ⟨ret_bool ?_, Grow.refl w⟩
    symm
    rw [decide_eq_false_iff_not]
    intro e
    exact HNM.out (by rw [HN.out, HM.out, e])
/-- the text of known -/
def kn0 : ByteArray := ⟨#[40, 97, 124, 97, 98, 41, 40, 99, 124, 98, 99, 100, 41]⟩
def kn1 : ByteArray := ⟨#[97, 98, 99, 100]⟩
theorem kn_ok : (compF kn0).2.2 = 0 := by decide +kernel
theorem kn_find : findF (compF kn0).1 (compF kn0).2.1 kn1 0 = some (some [0, 4, 0, 1, 1, 4]) := by decide +kernel
theorem kn_len : (compF kn0).2.1.length ≤ 100 := by decide +kernel
end Go.Proofs.Ytldcbkememonaaa

namespace Go.Proofs.Ytldcbkememonaaa
open Go.RowKit
set_option linter.unusedVariables false
set_option linter.unusedSimpArgs false

/-- numbers that can be read -/
def RdN (xs : List Int) (a : Option Addr) (w : World) : Prop := 0 < xs.length → ∃ g o, a = some ⟨g, o, none⟩ ∧ g < w.heap.size ∧ ∀ j x, xs[j]? = some x → w.cell? ⟨g, o + j, none⟩ = some (.int .i64 x)
theorem RdN.grow {xs : List Int} {a : Option Addr} {w w' : World} (h : RdN xs a w) (hb : Grow w w') : RdN xs a w' := fun hl => by
  obtain ⟨g, o, h1, h2, h3⟩ := h hl
  exact ⟨g, o, h1, Nat.lt_of_lt_of_le h2 (Grow.size hb), fun j x hj => (Below.cell hb (p := ⟨g, o + j, none⟩) h2).trans (h3 j x hj)⟩
theorem IntsIn.rdN {xs : List Int} {v : Value} {w : World} (h : IntsIn xs v w) : ∃ a c, v = .slice a xs.length c ∧ RdN xs a w := by
  obtain ⟨a, c, rfl⟩ := h.shape
  refine ⟨a, c, rfl, fun hl => ?_⟩
  obtain ⟨g, c', e, _, hg⟩ := World.ownsRow.form h hl
  injection e with e1 _ ec
  subst e1 ec
  refine ⟨g, 0, rfl, hg, fun j x hj => ?_⟩
  have hj2 : j < xs.length := (List.getElem?_eq_some_iff.1 hj).1
  rw [Nat.zero_add, World.ownsRow.cellAt h j (by omega), List.getElem?_map, hj]
  rfl
def grpF (tx : ByteArray) (ps : List Int) (k : Int) : ByteArray :=
  if k < 0 ∨ (ps.length : Int) ≤ 2 * k + 1 then e0
  else if ps.getD (2 * k).toNat 0 < 0 ∨ ps.getD (2 * k + 1).toNat 0 < ps.getD (2 * k).toNat 0 ∨ (tx.size : Int) < ps.getD (2 * k + 1).toNat 0 then e0
  else tx.extract (ps.getD (2 * k).toNat 0).toNat (ps.getD (2 * k + 1).toNat 0).toNat
def StrP (s : ByteArray) (w : World) (e : Ending) (w' : World) : Prop := e = .returned (.string s) ∧ Grow w w'
theorem ret_str {a b : ByteArray} (h : a = b) : Ending.returned (.string a) = .returned (.string b) := by rw [h]

set_option maxHeartbeats 2000000 in
theorem group19_any (tx : ByteArray) (ps : List Int) (k : Int) (a : Option Addr) (c : Nat) (w : World) (h : RdN ps a w) (hn : ps.length ≤ 100000) (ht : tx.size ≤ 100000) (hk9 : k ≤ 9223372036854775807) : Calls Try.prog 19 #[.string tx, .slice a ps.length c, .int .i64 k] w (StrP (grpF tx ps k) w) := by
  obtain ⟨n, hN⟩ : ∃ n, n = ps.length := ⟨_, rfl⟩
  obtain ⟨R, hR⟩ : ∃ R, R = grpF tx ps k := ⟨_, rfl⟩
  rw [← hR, ← hN]
  unfold grpF at hR
  rw [← hN] at hR hn
  by_cases h1 : k < 0
  · rw [if_pos (.inl h1)] at hR
    have HR := Lib.hid hR
    clear hR hN h hk9
    go_enter Try.func19, Try.ntmps19
    go_wp2
    go_ret
    exact ⟨ret_str HR.out.symm, Grow.refl w⟩
  · by_cases h2 : (n : Int) ≤ 2 * k + 1
    · rw [if_pos (.inr h2)] at hR
      have HR := Lib.hid hR
      have h0 : (0 : Int) ≤ k := by omega
      have h2' : (n : Int) / 2 ≤ k := by omega
      have h2'' : ¬ k < (n : Int) / 2 := by omega
      clear hR hN h hk9 h2
      go_enter Try.func19, Try.ntmps19
      go_wp2
      go_ret
      exact ⟨ret_str HR.out.symm, Grow.refl w⟩
    · obtain ⟨q, rfl⟩ : ∃ q : Nat, k = q := ⟨k.toNat, by omega⟩
      have e1 : (2 * (q : Int)).toNat = 2 * q := by omega
      have e2 : (2 * (q : Int) + 1).toNat = 2 * q + 1 := by omega
      rw [if_neg (by omega), e1, e2] at hR
      have hq : 2 * q + 1 < n := by omega
      obtain ⟨g, o, rfl, hg, hc⟩ := h (by omega)
      obtain ⟨x, hx⟩ : ∃ x, ps[2 * q]? = some x := ⟨_, List.getElem?_eq_getElem (by omega)⟩
      obtain ⟨y, hy⟩ : ∃ y, ps[2 * q + 1]? = some y := ⟨_, List.getElem?_eq_getElem (by omega)⟩
      rw [show ps.getD (2 * q) 0 = x by simp [List.getD, hx], show ps.getD (2 * q + 1) 0 = y by simp [List.getD, hy]] at hR
      have x1 := hc _ _ hx
      have y1 := hc _ _ hy
      have q0 : (0 : Int) ≤ (q : Int) := by omega
      have q1 : (q : Int) ≤ 100000 := by omega
      have q2 : 2 * (q : Int) < (n : Int) := by omega
      have q3 : 2 * (q : Int) + 1 < (n : Int) := by omega
      have q4 : ¬ (n : Int) / 2 ≤ (q : Int) := by omega
      have q5 : (q : Int) < (n : Int) / 2 := by omega
      have E1 := Lib.hid e1
      have E2 := Lib.hid e2
      clear hN h hc hx hy hk9 e1 e2
      by_cases h3 : x < 0
      · rw [if_pos (.inl h3)] at hR
        have HR := Lib.hid hR
        clear hR
        have e1 := E1.out
        have e2 := E2.out
        go_enter Try.func19, Try.ntmps19
        go_wp2
        go_quiet (fail)
        go_wp2
        go_ret
        exact ⟨ret_str HR.out.symm, below_drewN (Grow.refl w) _⟩
      · by_cases h4 : y < x
        · rw [if_pos (.inr (.inl h4))] at hR
          have HR := Lib.hid hR
          clear hR
          have e1 := E1.out
          have e2 := E2.out
          go_enter Try.func19, Try.ntmps19
          go_wp2
          go_quiet (fail)
          go_wp2
          go_ret
          exact ⟨ret_str HR.out.symm, below_drewN (Grow.refl w) _⟩
        · by_cases h5 : (tx.size : Int) < y
          · rw [if_pos (.inr (.inr h5))] at hR
            have HR := Lib.hid hR
            clear hR
            have e1 := E1.out
            have e2 := E2.out
            go_enter Try.func19, Try.ntmps19
            go_wp2
            go_quiet (fail)
            go_wp2
            go_ret
            exact ⟨ret_str HR.out.symm, below_drewN (Grow.refl w) _⟩
          · rw [if_neg (by omega)] at hR
            have HR := Lib.hid hR
            obtain ⟨x', rfl⟩ : ∃ x' : Nat, x = x' := ⟨x.toNat, by omega⟩
            obtain ⟨y', rfl⟩ : ∃ y' : Nat, y = y' := ⟨y.toNat, by omega⟩
            have k3 : (x' : Int) ≤ (y' : Int) := by omega
            have k4 : (y' : Int) ≤ (tx.size : Int) := by omega
            clear hR
            have e1 := E1.out
            have e2 := E2.out
            go_enter Try.func19, Try.ntmps19
            go_wp2
            go_quiet (fail)
            go_wp2
            go_ret
            exact ⟨ret_str (by rw [HR.out]; simp), below_drewN (Grow.refl w) _⟩

set_option maxHeartbeats 2000000 in
theorem group20_any (tx : ByteArray) (ps : List Int) (k : Int) (a : Option Addr) (c : Nat) (w : World) (h : RdN ps a w) (hn : ps.length ≤ 100000) (ht : tx.size ≤ 100000) (hk9 : k ≤ 9223372036854775807) : Calls Try.prog 20 #[.string tx, .slice a ps.length c, .int .i64 k] w (StrP (grpF tx ps k) w) := by
  obtain ⟨n, hN⟩ : ∃ n, n = ps.length := ⟨_, rfl⟩
  obtain ⟨R, hR⟩ : ∃ R, R = grpF tx ps k := ⟨_, rfl⟩
  rw [← hR, ← hN]
  unfold grpF at hR
  rw [← hN] at hR hn
  by_cases h1 : k < 0
  · rw [if_pos (.inl h1)] at hR
    have HR := Lib.hid hR
    clear hR hN h hk9
    go_enter Try.func20, Try.ntmps20
    go_wp2
    go_ret
    exact ⟨ret_str HR.out.symm, Grow.refl w⟩
  · by_cases h2 : (n : Int) ≤ 2 * k + 1
    · rw [if_pos (.inr h2)] at hR
      have HR := Lib.hid hR
      have h0 : (0 : Int) ≤ k := by omega
      by_cases h6 : (1073741824 : Int) < k
      · clear hR hN h h2
        go_enter Try.func20, Try.ntmps20
        go_wp2
        go_ret
        exact ⟨ret_str HR.out.symm, Grow.refl w⟩
      · have h7 : k ≤ 1073741824 := by omega
        clear hR hN h hk9 h6
        go_enter Try.func20, Try.ntmps20
        go_wp2
        go_ret
        exact ⟨ret_str HR.out.symm, Grow.refl w⟩
    · obtain ⟨q, rfl⟩ : ∃ q : Nat, k = q := ⟨k.toNat, by omega⟩
      have e1 : (2 * (q : Int)).toNat = 2 * q := by omega
      have e2 : (2 * (q : Int) + 1).toNat = 2 * q + 1 := by omega
      rw [if_neg (by omega), e1, e2] at hR
      have hq : 2 * q + 1 < n := by omega
      obtain ⟨g, o, rfl, hg, hc⟩ := h (by omega)
      obtain ⟨x, hx⟩ : ∃ x, ps[2 * q]? = some x := ⟨_, List.getElem?_eq_getElem (by omega)⟩
      obtain ⟨y, hy⟩ : ∃ y, ps[2 * q + 1]? = some y := ⟨_, List.getElem?_eq_getElem (by omega)⟩
      rw [show ps.getD (2 * q) 0 = x by simp [List.getD, hx], show ps.getD (2 * q + 1) 0 = y by simp [List.getD, hy]] at hR
      have x1 := hc _ _ hx
      have y1 := hc _ _ hy
      have q0 : (0 : Int) ≤ (q : Int) := by omega
      have q1 : (q : Int) ≤ 100000 := by omega
      have q2 : 2 * (q : Int) < (n : Int) := by omega
      have q3 : 2 * (q : Int) + 1 < (n : Int) := by omega
      have q4 : ¬ (1073741824 : Int) < (q : Int) := by omega
      have E1 := Lib.hid e1
      have E2 := Lib.hid e2
      clear hN h hc hx hy hk9 e1 e2
      by_cases h3 : x < 0
      · rw [if_pos (.inl h3)] at hR
        have HR := Lib.hid hR
        clear hR
        have e1 := E1.out
        have e2 := E2.out
        go_enter Try.func20, Try.ntmps20
        go_wp2
        go_quiet (fail)
        go_wp2
        go_ret
        exact ⟨ret_str HR.out.symm, below_drewN (Grow.refl w) _⟩
      · by_cases h4 : y < x
        · rw [if_pos (.inr (.inl h4))] at hR
          have HR := Lib.hid hR
          clear hR
          have e1 := E1.out
          have e2 := E2.out
          go_enter Try.func20, Try.ntmps20
          go_wp2
          go_quiet (fail)
          go_wp2
          go_ret
          exact ⟨ret_str HR.out.symm, below_drewN (Grow.refl w) _⟩
        · by_cases h5 : (tx.size : Int) < y
          · rw [if_pos (.inr (.inr h5))] at hR
            have HR := Lib.hid hR
            clear hR
            have e1 := E1.out
            have e2 := E2.out
            go_enter Try.func20, Try.ntmps20
            go_wp2
            go_quiet (fail)
            go_wp2
            go_ret
            exact ⟨ret_str HR.out.symm, below_drewN (Grow.refl w) _⟩
          · rw [if_neg (by omega)] at hR
            have HR := Lib.hid hR
            obtain ⟨x', rfl⟩ : ∃ x' : Nat, x = x' := ⟨x.toNat, by omega⟩
            obtain ⟨y', rfl⟩ : ∃ y' : Nat, y = y' := ⟨y.toNat, by omega⟩
            have k3 : (x' : Int) ≤ (y' : Int) := by omega
            have k4 : (y' : Int) ≤ (tx.size : Int) := by omega
            clear hR
            have e1 := E1.out
            have e2 := E2.out
            go_enter Try.func20, Try.ntmps20
            go_wp2
            go_quiet (fail)
            go_wp2
            go_ret
            exact ⟨ret_str (by rw [HR.out]; simp), below_drewN (Grow.refl w) _⟩
end Go.Proofs.Ytldcbkememonaaa
