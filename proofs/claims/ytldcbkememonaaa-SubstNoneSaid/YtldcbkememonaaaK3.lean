/-
  The writer in memory; the walk of lays.
-/
import Derived.Test.YtldcbkememonaaaPk
import Derived.Test.YtldcbkememonaaaPb

namespace Go.Proofs.Ytldcbkememonaaa
open Go.RowKit
set_option linter.unusedVariables false
set_option linter.unusedSimpArgs false

structure WS where
  b : ByteArray
  ov : Bool
def laysW (most : Int) (st : WS) (x : ByteArray) : WS := if st.ov = true ∨ (0 ≤ most ∧ most - st.b.size < x.size) then ⟨st.b, true⟩ else ⟨st.b ++ x, false⟩
/-- the writer: its three cells, its bytes -/
structure WAt (B r : Nat) (most : Int) (st : WS) (v : Value) (w : World) : Prop where
  blk : w.heap[r]? = some (.cells #[v, .int .i64 most, .bool st.ov] 82 (0, 0))
  own : w.ownsRow B 5 1 v st.b.size (byteCells st.b)
  rB : B ≤ r
section
variable {B r : Nat} {most : Int} {st : WS} {v : Value} {w w' : World}
theorem WAt.lt (h : WAt B r most st v w) : r < w.heap.size := lt_blk h.blk
theorem WAt.ne (h : WAt B r most st v w) : v.ownBlock ≠ some r := fun e => by
  rcases h.own.2 with ⟨h1, _⟩ | ⟨g, cap, cur, h1, _, h2, _⟩
  · rw [h1] at e; cases e
  · rw [h1] at e
    have e' : g = r := by simpa [Value.ownBlock] using e
    rw [e', h.blk] at h2
    injection h2 with h2
    injection h2 with _ h3
    exact absurd h3 (by decide)
theorem WAt.grow (h : WAt B r most st v w) (hg : Grow w w') : WAt B r most st v w' := ⟨(Below.block hg r h.lt).trans h.blk, own_grow h.own hg, h.rB⟩
end
theorem byteCells_app (a b : ByteArray) : byteCells (a ++ b) = byteCells a ++ byteCells b := by
  unfold byteCells
  rw [ByteArray.data_append, Array.toList_append, List.map_append]
/-- behind an append and its store -/
theorem WAt.app {B r : Nat} {most : Int} {st : WS} {v v' : Value} {x : ByteArray} {w w1 w2 : World} (h : WAt B r most st v w) (hov : st.ov = false) (hg : Grow w w1) (hgr : w1.grownBy w2 v.ownBlock) (hown : w2.ownsRow B 5 1 v' (st.b.size + x.size) (byteCells st.b ++ byteCells x))
    (hloc : ∀ g, v'.ownBlock = some g → v.ownBlock = some g ∨ w1.heap.size ≤ g) : WAt B r most ⟨st.b ++ x, false⟩ v' (w2.setCell ⟨r, 0, none⟩ v') ∧ Fr r v w (w2.setCell ⟨r, 0, none⟩ v') ∧ NewB v v' w := by
  have hlt := h.lt
  have hs1 := hg.size
  have hb := (hgr.block r (by omega) (fun e => h.ne e.symm)).trans ((Below.block hg r hlt).trans h.blk)
  have hne : v'.ownBlock ≠ some r := fun e => by
    rcases hloc r e with h1 | h1
    · exact h.ne h1
    · omega
  refine ⟨⟨?_, ?_, h.rB⟩, ⟨hgr.os.trans (Below.os hg), hgr.tape.trans (Below.tape hg), hgr.output.trans (Below.output hg), by simp; exact Nat.le_trans hs1 hgr.size, fun k hk h1 h2 => ?_⟩, fun g hgv => ?_⟩
  · rw [Go.heap_setCell_same w2 r 0 _ _ _ hb, hov]; rfl
  · simp only
    rw [byteCells_app, ByteArray.size_append]
    refine hown.kept (row := some r) ⟨rfl, rfl, rfl, by simp, fun k hk hkr => heap_setCell_other _ _ _ _ (fun e => hkr (by rw [e]))⟩ ?_
    right; exact hne
  · rw [heap_setCell_other _ _ _ _ h1, hgr.block k (by omega) h2]
    exact Below.block hg k hk
  · rcases hloc g hgv with h1 | h1
    · exact .inl h1
    · exact .inr (by omega)
/-- behind the store that ends it -/
theorem WAt.over {B r : Nat} {most : Int} {st : WS} {v : Value} {w w1 : World} (h : WAt B r most st v w) (hg : Grow w w1) : WAt B r most ⟨st.b, true⟩ v (w1.setCell ⟨r, 2, none⟩ (.bool true)) ∧ Fr r v w (w1.setCell ⟨r, 2, none⟩ (.bool true)) ∧ NewB v v w := by
  have h1 := h.grow hg
  have hos := Below.os hg
  have htp := Below.tape hg
  have hou := Below.output hg
  refine ⟨⟨?_, ?_, h.rB⟩, ⟨hos, htp, hou, by simp; exact hg.size, fun k hk h2 h3 => ?_⟩, NewB.self v w⟩
  · rw [Go.heap_setCell_same w1 r 2 _ _ _ h1.blk]; rfl
  · refine h1.own.kept (row := some r) ⟨rfl, rfl, rfl, by simp, fun k hk hkr => heap_setCell_other _ _ _ _ (fun e => hkr (by rw [e]))⟩ ?_
    right; exact h.ne
  · rw [heap_setCell_other _ _ _ _ h2]
    exact Below.block hg k hk
def LayP (B r : Nat) (most : Int) (st' : WS) (v : Value) (w : World) (e : Ending) (w' : World) : Prop := e = .returned (.tuple #[]) ∧ ∃ v', WAt B r most st' v' w' ∧ Fr r v w w' ∧ NewB v v' w
set_option maxRecDepth 100000 in
set_option maxHeartbeats 4000000 in
theorem lays_any (B r : Nat) (most : Int) (st : WS) (v : Value) (x : ByteArray) (w : World) (h : WAt B r most st v w) (g o c : Nat) (hc : w.cell? ⟨g, o, none⟩ = some (.string x)) (hb : st.b.size ≤ 1000000) (hx : x.size ≤ 1000000) (hm : -1 ≤ most) (hm2 : most ≤ 1000000) :
    Calls Try.prog 35 #[.pointer (some ⟨r, 0, none⟩), .slice (some ⟨g, o, none⟩) 1 c] w (LayP B r most (laysW most st x) v w) := by
  obtain ⟨i0, hi0, hz0, hz1, hz2⟩ := info_parts Try.info5
  obtain ⟨n, hn⟩ : ∃ n, n = st.b.size := ⟨_, rfl⟩
  obtain ⟨st', hst'⟩ : ∃ st', st' = laysW most st x := ⟨_, rfl⟩
  rw [← hst']
  unfold laysW at hst'
  rw [← hn] at hst' hb
  obtain ⟨av, cv, hv, _⟩ := own_shape h.own
  rw [← hn] at hv
  subst hv
  have c0 := cell_blk h.blk 0
  have c1 := cell_blk h.blk 1
  have c2 := cell_blk h.blk 2
  have f2 := froz_blk h.blk 2
  have f0 := froz_blk h.blk 0
  simp at c0 c1 c2
  have hr := h.lt
  have H := Lib.hid h
  have HN := Lib.hid hn
  have HST := Lib.hid hst'
  clear h hn hst'
  have hcn : w.cell? ⟨g, o + 0, none⟩ = some (.string x) := hc
  go_enter Try.func35, Try.ntmps35
  go_wp2
  go_loopw [8] (fun t8 wr => ∃ j : Nat, j ≤ 1 ∧ t8 = .int .i64 j ∧ Hid (j = 0 → wr = w) ∧ Hid (j = 1 → ∃ v', WAt B r most st' v' wr ∧ Fr r (.slice av n cv) w wr ∧ NewB (.slice av n cv) v' w)) (fun t8 _ => 1 - (intOf t8).toNat)
  case atStart => exact ⟨0, by omega, rfl, Lib.hid (fun _ => rfl), Lib.hid (fun h => by omega)⟩
  case round =>
    obtain ⟨j, hj, rfl, HW, HE⟩ := hrel
    by_cases hj0 : j = 0
    · have hw := HW.out hj0
      subst hw
      subst hj0
      clear HW HE
      cases hov : st.ov with
      | true =>
        rw [hov] at c2
        have hs := HST.out
        rw [if_pos (.inl hov)] at hs
        have HS2 := Lib.hid hs
        clear hs
        go_wp2
        go_quiet (fail)
        have FIN := Lib.hid (H.out.over (below_drewN (Grow.refl wr) nq))
        go_wp2
        go_end0
        rw [HS2.out]
        exact ⟨rfl, _, FIN.out⟩
      | false =>
        rw [hov] at c2
        have HOV := Lib.hid hov
        have wp : IntKind.i64.wrap (most - (n : Int)) = most - (n : Int) := IntWalk.i64_in _ (by omega)
        by_cases hm0 : 0 ≤ most
        · by_cases hlim : most - (n : Int) < (x.size : Int)
          · have hs := HST.out
            rw [if_pos (.inr ⟨hm0, hlim⟩)] at hs
            have HS2 := Lib.hid hs
            have d1 : decide (0 ≤ most) = true := by simpa using hm0
            have d2 : decide (most - (n : Int) < (x.size : Int)) = true := by simpa using hlim
            clear hs hov
            go_wp2
            go_quiet (fail)
            have FIN := Lib.hid (H.out.over (below_drewN (Grow.refl wr) nq))
            clear wp
            go_wp2
            go_end0
            rw [HS2.out]
            exact ⟨rfl, _, FIN.out⟩
          · have hs := HST.out
            rw [if_neg (by rw [hov]; simp; omega)] at hs
            have HS2 := Lib.hid hs
            have d1 : decide (0 ≤ most) = true := by simpa using hm0
            have d2 : decide (most - (n : Int) < (x.size : Int)) = false := by simpa using hlim
            clear hs hov
            go_wp2
            go_quiet (fail)
            obtain ⟨W2, hW2⟩ : ∃ W2, W2 = wr.drewN nq := ⟨_, rfl⟩
            have g2 : Grow wr W2 := by rw [hW2]; exact below_drewN (Grow.refl wr) nq
            have b0 := (Below.cell g2 (p := ⟨r, 0, none⟩) hr).trans c0
            have hr2 : r < W2.heap.size := Nat.lt_of_lt_of_le hr g2.size
            have G2 := Lib.hid g2
            have OW := Lib.hid (show W2.ownsRow B 5 1 (.slice av n cv) n (byteCells st.b) from by have := own_grow H.out.own g2; rw [← HN.out] at this; exact this)
            have SRC := Lib.hid (Src.ofString (P := Try.prog) (w := W2) Try.underlying9 x)
            have hB : B ≤ W2.heap.size := by have := H.out.rB; omega
            have NE6 := Lib.hid (show (Value.slice av n cv).ownBlock ≠ some r from H.out.ne)
            have FZ0 := Lib.hid (show ∀ w8 : World, W2.grownBy w8 (Value.slice av n cv).ownBlock → w8.frozen? ⟨r, 0, none⟩ = false from fun w8 hg => by
              rw [World.frozen?_of_block (a := ⟨r, 0, none⟩) (hg.block r (by omega) (fun e => NE6.out e.symm))]
              exact froz_blk (H.out.grow g2).blk 0)
            rw [← hW2]
            clear hW2 g2 wp f2 f0 c0 c1 c2
            go_wp2_with (at_builtin; refine wpList_append_srcs _ (by rfl) _ _ 80 9 (by rfl) B 5 i0 _ 1 Try.underlying80 hi0 hz0 hz1 hz2 rfl _ (by rfl) n (byteCells st.b) OW.out _ (by rfl) x.size (byteCells x) SRC.out (by unfold maxLen; omega) (by omega) hB ?_; intro v8 w8 hown8 hgr8 hloc8; obtain ⟨a8, x8, rfl, y8⟩ := own_shape hown8; clear y8; have f8 := FZ0.out _ hgr8; have c8 := hgr8.cell (a := ⟨r, 0, none⟩) b0 (fun e => NE6.out e.symm); have FIN := Lib.hid (H.out.app (x := x) HOV.out G2.out hgr8 (by rw [← HN.out]; exact hown8) hloc8); clear hown8 hgr8 hloc8)
            go_roundw
            case rel => exact ⟨1, by omega, rfl, Lib.hid (fun h => by omega), Lib.hid (fun _ => by rw [HS2.out]; exact ⟨_, FIN.out⟩)⟩
            case measure => simp [intOf]
        · have hs := HST.out
          rw [if_neg (by rw [hov]; simp; omega)] at hs
          have HS2 := Lib.hid hs
          have d1 : decide (0 ≤ most) = false := by simpa using hm0
          clear hs hov
          go_wp2
          go_quiet (fail)
          obtain ⟨W2, hW2⟩ : ∃ W2, W2 = wr.drewN nq := ⟨_, rfl⟩
          have g2 : Grow wr W2 := by rw [hW2]; exact below_drewN (Grow.refl wr) nq
          have b0 := (Below.cell g2 (p := ⟨r, 0, none⟩) hr).trans c0
          have hr2 : r < W2.heap.size := Nat.lt_of_lt_of_le hr g2.size
          have G2 := Lib.hid g2
          have OW := Lib.hid (show W2.ownsRow B 5 1 (.slice av n cv) n (byteCells st.b) from by have := own_grow H.out.own g2; rw [← HN.out] at this; exact this)
          have SRC := Lib.hid (Src.ofString (P := Try.prog) (w := W2) Try.underlying9 x)
          have hB : B ≤ W2.heap.size := by have := H.out.rB; omega
          have NE6 := Lib.hid (show (Value.slice av n cv).ownBlock ≠ some r from H.out.ne)
          have FZ0 := Lib.hid (show ∀ w8 : World, W2.grownBy w8 (Value.slice av n cv).ownBlock → w8.frozen? ⟨r, 0, none⟩ = false from fun w8 hg => by
            rw [World.frozen?_of_block (a := ⟨r, 0, none⟩) (hg.block r (by omega) (fun e => NE6.out e.symm))]
            exact froz_blk (H.out.grow g2).blk 0)
          rw [← hW2]
          clear hW2 g2 wp f2 f0 c0 c1 c2
          go_wp2_with (at_builtin; refine wpList_append_srcs _ (by rfl) _ _ 80 9 (by rfl) B 5 i0 _ 1 Try.underlying80 hi0 hz0 hz1 hz2 rfl _ (by rfl) n (byteCells st.b) OW.out _ (by rfl) x.size (byteCells x) SRC.out (by unfold maxLen; omega) (by omega) hB ?_; intro v8 w8 hown8 hgr8 hloc8; obtain ⟨a8, x8, rfl, y8⟩ := own_shape hown8; clear y8; have f8 := FZ0.out _ hgr8; have c8 := hgr8.cell (a := ⟨r, 0, none⟩) b0 (fun e => NE6.out e.symm); have FIN := Lib.hid (H.out.app (x := x) HOV.out G2.out hgr8 (by rw [← HN.out]; exact hown8) hloc8); clear hown8 hgr8 hloc8)
          go_roundw
          case rel => exact ⟨1, by omega, rfl, Lib.hid (fun h => by omega), Lib.hid (fun _ => by rw [HS2.out]; exact ⟨_, FIN.out⟩)⟩
          case measure => simp [intOf]
    · have hj1 : j = 1 := by omega
      subst hj1
      have FIN := Lib.hid (HE.out rfl)
      clear HE HW
      go_wp2
      go_end0
      exact ⟨rfl, FIN.out⟩
end Go.Proofs.Ytldcbkememonaaa
