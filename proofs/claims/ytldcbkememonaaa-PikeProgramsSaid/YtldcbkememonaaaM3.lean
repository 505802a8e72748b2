/-
  The walk of 'cut'.
-/
import Derived.Test.YtldcbkememonaaaM2
import Derived.Lib.SmallJoins
namespace Go.Proofs.Ytldcbkememonaaa
open Go.RowKit
set_option linter.unusedVariables false
set_option linter.unusedSimpArgs false

theorem rdI_drop {L : List Ins} {g : Nat} {w : World} (h : RdI L g 0 w) (k : Nat) : RdI (L.drop k) g (k * 4) w := fun j i hj => by
  rw [List.getElem?_drop] at hj
  have := h (k + j) i hj
  rw [show k * 4 + j * 4 = 0 + (k + j) * 4 from by omega]
  exact this
theorem cells_take {w : World} {B g n c : Nat} {L : List Ins} (h : w.ownsRow B 76 4 (.slice (some ⟨g, 0, none⟩) n c) n (cellsI L)) (hl : L.length = n) (k : Nat) (hk : k ≤ n) :
    ∀ j u, (cellsI (L.take k))[j]? = some u → w.cell? ((⟨g, 0, none⟩ : Addr).add j) = some u := fun j u hj => by
  have hj' : j < (cellsI (L.take k)).length := by
    rcases Nat.lt_or_ge j (cellsI (L.take k)).length with h1 | h1
    · exact h1
    · rw [List.getElem?_eq_none h1] at hj; cases hj
  have e : cellsI L = cellsI (L.take k) ++ cellsI (L.drop k) := by rw [← cellsI_append, List.take_append_drop]
  have hc := h.cells (g := g) rfl j u (by rw [e, List.getElem?_append_left hj']; exact hj)
  exact hc

theorem cellsI_allone (L : List Ins) : ∀ u ∈ cellsI L, u.oneCell' = true := by
  intro u hu
  simp only [cellsI, List.mem_flatMap] at hu
  obtain ⟨i, _, hi⟩ := hu
  exact insC_one i u hi
theorem own_shape {w : World} {B n size : Nat} {e : TypeId} {v : Value} {xs : List Value} (h : w.ownsRow B e size v n xs) : ∃ a cap, v = .slice a n cap ∧ n ≤ cap := by
  rcases h.2 with ⟨h1, h2⟩ | ⟨g, cap, cur, h1, _, _, h2, _⟩
  · exact ⟨none, 0, by rw [h1, h2], by omega⟩
  · exact ⟨_, cap, h1, h2⟩
/-- what 'cut' leaves -/
def CutPost (B r : Nat) (s : ByteArray) (st : RS) (v : Value) (fr : Nat) (w : World) (e : Ending) (w' : World) : Prop :=
  ∃ vl v', e = .returned vl ∧ w'.ownsRow w.heap.size 76 4 vl (st.L.length - fr) (cellsI ((st.L.drop fr).map (movI (-(fr : Int))))) ∧ RA B r s { st with L := st.L.take fr } v' w' ∧ Fr r v w w' ∧ NewB v v' w ∧
    ∀ g, vl.ownBlock = some g → v'.ownBlock ≠ some g

theorem cut_post {B r : Nat} {s : ByteArray} {st : RS} {v vl v' : Value} {fr : Nat} {w w1 w2 : World} (h : RA B r s st v w) (hfr : fr ≤ st.L.length) (g1 : Grow w w1) (hvl : w1.ownsRow w.heap.size 76 4 vl (st.L.length - fr) (cellsI ((st.L.drop fr).map (movI (-(fr : Int))))))
    (g2 : Grow w1 w2) (hv' : w2.ownsRow w1.heap.size 76 4 v' fr (cellsI (st.L.take fr))) : CutPost B r s st v fr w (.returned vl) (w2.setCell ⟨r, 5, none⟩ v') := by
  have hlt := h.lt
  have h2 := (h.grow g1).grow g2
  have s1 := g1.size
  have s2 := g2.size
  have hlow : ∀ g, v'.ownBlock = some g → w1.heap.size ≤ g := fun g hg => (hv'.lt g hg).1
  refine ⟨vl, v', rfl, ?_, ⟨?_, ?_, h.rB⟩, ⟨?_, ?_, ?_, ?_, fun k hk h1 _ => ?_⟩, fun g hg => .inr (by have := hlow g hg; omega), fun g hg e => ?_⟩
  · exact ownsRow_setCell_below (own_grow hvl g2) hlt _
  · rw [Go.heap_setCell_same w2 r 5 _ _ _ h2.blk]; rfl
  · show World.ownsRow _ _ _ _ _ (st.L.take fr).length _
    rw [List.length_take, Nat.min_eq_left hfr]
    exact Joins.ownsRow_le (ownsRow_setCell_below hv' (by show r < _; omega) _) (by have := h.rB; omega)
  · exact (Below.os g2).trans (Below.os g1)
  · exact (Below.tape g2).trans (Below.tape g1)
  · exact (Below.output g2).trans (Below.output g1)
  · simp; omega
  · rw [heap_setCell_other _ _ _ _ h1, Below.block g2 k (by omega)]
    exact Below.block g1 k hk
  · have := (hvl.lt g hg).2
    have := hlow g e
    omega

set_option maxHeartbeats 2000000 in
theorem cut_any (B r : Nat) (s : ByteArray) (st : RS) (v : Value) (fr : Nat) (w : World) (h : RA B r s st v w) (hn : st.L.length ≤ 100000) (h0 : 0 < st.L.length) (hfr : fr ≤ st.L.length) :
    Calls Try.prog 50 #[.pointer (some ⟨r, 0, none⟩), .int .i64 fr] w (CutPost B r s st v fr w) := by
  obtain ⟨i0, hi0, hz0, hz1, hz2⟩ := info_parts Try.info76
  obtain ⟨g, c, hv, hg1, hg2⟩ := h.own.form h0
  subst hv
  have hcap : st.L.length ≤ c := by
    rcases h.own.2 with ⟨h1, _⟩ | ⟨_, _, _, h1, _, _, h2, _⟩
    · cases h1
    · injection h1 with _ _ h3; omega
  obtain ⟨n, hN⟩ : ∃ n, n = st.L.length := ⟨_, rfl⟩
  have HN := Lib.hid hN
  have c5 := h.c5
  have H := Lib.hid h
  have RD := Lib.hid (rdI_own h.own rfl)
  have HFR := Lib.hid hfr
  rw [← hN] at c5 hcap hn hfr h0
  have k1 : (fr : Int) ≤ (n : Int) := by omega
  have k2 : (fr : Int) ≤ (c : Int) := by omega
  have k3 : (0 : Int) ≤ (fr : Int) := by omega
  have k4 : (fr : Int) ≤ 100000 := by omega
  have hr := h.lt
  clear h hN
  by_cases hcf : c = fr
  · subst hcf
    obtain rfl : n = c := by omega
    have MV := Lib.hid (moved_any (st.L.drop n) (-(n : Int)) (some ⟨g, 0, none⟩) 0 0 g (n * 4) w (by rw [List.length_drop, ← HN.out]; omega) (by omega) (rdI_drop RD.out n) (fun h => by omega))
    clear k1 hcap hfr
    go_enter Try.func50, Try.ntmps50
    go_wp2_with fail
    refine MV.out.mono ?_
    rintro e w1 ⟨vl, rfl, own1, b1, hvz⟩
    clear hvz
    have d5 := (b1.cell (p := ⟨r, 5, none⟩) hr).trans c5
    have e5 := (b1.frozen (p := ⟨r, 5, none⟩) hr).trans (H.out.fz 5)
    have hr1 : r < w1.heap.size := Nat.lt_of_lt_of_le hr b1.size
    have SRC := Lib.hid (show Src Try.prog 4 31 (.slice (some ⟨g, 0, none⟩) n n) n (cellsI (st.L.take n)) (w1.alloc (.cells #[] 76)) from
      Src.ofSlice _ Try.underlying31 ⟨g, 0, none⟩ n n _ (by rw [cellsI_length, List.length_take, Nat.min_eq_left HFR.out]) (cells_take (own_grow H.out.own (((Grow.refl w).trans b1).alloc _)) rfl n HFR.out) (cellsI_allone _))
    have OWN0 := Lib.hid (ownsRow_empty0 w1 w1.heap.size 76 4 (Nat.le_refl _))
    have hB : w1.heap.size ≤ (w1.alloc (.cells #[] 76)).heap.size := by simp
    have O1 := Lib.hid own1
    have B1 := Lib.hid b1
    clear own1 b1 MV
    go_wp2_with (at_builtin; refine wpList_append_fresh _ (by rfl) _ _ 31 31 (by rfl) w1.heap.size 76 i0 _ 4 40 Try.underlying31 hi0 hz0 hz1 hz2 rfl _ (by rfl) (.inr ⟨w1.heap.size, rfl⟩) OWN0.out _ (by rfl) n (cellsI (st.L.take n)) SRC.out (by unfold maxLen; omega) (by omega) hB ?_; intro v5 w5 hown5 hgr5 hf5 hz5; obtain ⟨a5, x5, rfl, y5⟩ := own_shape hown5; clear y5; have K5 := Lib.hid (((Grow.refl w1).alloc (.cells #[] 76)).trans hgr5); have O5 := Lib.hid hown5; have d6 := (Below.cell K5.out (p := ⟨r, 5, none⟩) hr1).trans d5; have e6 := (Below.frozen K5.out (p := ⟨r, 5, none⟩) hr1).trans e5; clear hown5 hgr5 hf5 hz5 d5 e5 c5 hr1 hB SRC OWN0 hi0 hz0 hz1 hz2)
    go_ret
    exact cut_post H.out HFR.out B1.out (by rw [← HN.out, Nat.sub_self]; exact O1.out) K5.out O5.out
  · have MV := Lib.hid (moved_any (st.L.drop fr) (-(fr : Int)) (some ⟨g, fr * 4, none⟩) (n - fr) (c - fr) g (fr * 4) w (by rw [List.length_drop, HN.out]) (by omega) (rdI_drop RD.out fr) (fun _ => rfl))
    go_enter Try.func50, Try.ntmps50
    go_wp2_with fail
    refine MV.out.mono ?_
    rintro e w1 ⟨vl, rfl, own1, b1, hvz⟩
    clear hvz
    have d5 := (b1.cell (p := ⟨r, 5, none⟩) hr).trans c5
    have e5 := (b1.frozen (p := ⟨r, 5, none⟩) hr).trans (H.out.fz 5)
    have hr1 : r < w1.heap.size := Nat.lt_of_lt_of_le hr b1.size
    have SRC := Lib.hid (show Src Try.prog 4 31 (.slice (some ⟨g, 0, none⟩) fr c) fr (cellsI (st.L.take fr)) (w1.alloc (.cells #[] 76)) from
      Src.ofSlice _ Try.underlying31 ⟨g, 0, none⟩ fr c _ (by rw [cellsI_length, List.length_take, Nat.min_eq_left HFR.out]) (cells_take (own_grow H.out.own (((Grow.refl w).trans b1).alloc _)) rfl fr HFR.out) (cellsI_allone _))
    have OWN0 := Lib.hid (ownsRow_empty0 w1 w1.heap.size 76 4 (Nat.le_refl _))
    have hB : w1.heap.size ≤ (w1.alloc (.cells #[] 76)).heap.size := by simp
    have O1 := Lib.hid own1
    have B1 := Lib.hid b1
    clear own1 b1 MV
    go_wp2_with (at_builtin; refine wpList_append_fresh _ (by rfl) _ _ 31 31 (by rfl) w1.heap.size 76 i0 _ 4 40 Try.underlying31 hi0 hz0 hz1 hz2 rfl _ (by rfl) (.inr ⟨w1.heap.size, rfl⟩) OWN0.out _ (by rfl) fr (cellsI (st.L.take fr)) SRC.out (by unfold maxLen; omega) (by omega) hB ?_; intro v5 w5 hown5 hgr5 hf5 hz5; obtain ⟨a5, x5, rfl, y5⟩ := own_shape hown5; clear y5; have K5 := Lib.hid (((Grow.refl w1).alloc (.cells #[] 76)).trans hgr5); have O5 := Lib.hid hown5; have d6 := (Below.cell K5.out (p := ⟨r, 5, none⟩) hr1).trans d5; have e6 := (Below.frozen K5.out (p := ⟨r, 5, none⟩) hr1).trans e5; clear hown5 hgr5 hf5 hz5 d5 e5 c5 hr1 hB SRC OWN0 hi0 hz0 hz1 hz2)
    go_ret
    exact cut_post H.out HFR.out B1.out (by rw [← HN.out]; exact O1.out) K5.out O5.out
end Go.Proofs.Ytldcbkememonaaa
