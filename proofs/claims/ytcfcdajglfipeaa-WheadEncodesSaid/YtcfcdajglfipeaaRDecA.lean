/-
  The state of the reference's Decode; FromFour over bytes.
-/
import Derived.Test.YtcfcdajglfipeaaDec2
import Derived.Deep.RegionHeld3
import Derived.Deep.RegionLaw
import Derived.Deep.DeepCutAuto
import Derived.Deep.LoopGhost
namespace Go.Proofs.Ytcfcdajglfipeaa
open Go.RowKit

theorem fromFour_q (g o c l : Nat) (a0 a1 a2 a3 : Int) (w : World) (hl : 4 ≤ l)
    (h0 : w.cell? ⟨g, o, none⟩ = some (.int .u8 a0)) (h1 : w.cell? ⟨g, o + 1, none⟩ = some (.int .u8 a1)) (h2 : w.cell? ⟨g, o + 2, none⟩ = some (.int .u8 a2)) (h3 : w.cell? ⟨g, o + 3, none⟩ = some (.int .u8 a3))
    (b0 : 0 ≤ a0 ∧ a0 ≤ 255) (b1 : 0 ≤ a1 ∧ a1 ≤ 255) (b2 : 0 ≤ a2 ∧ a2 ≤ 255) (b3 : 0 ≤ a3 ∧ a3 ≤ 255) :
    Calls Try.prog 27 #[.slice (some ⟨g, o, none⟩) l c] w fun e w' => e = .returned (.int .i64 (a0 * 16777216 + a1 * 65536 + a2 * 256 + a3)) ∧ ∃ n, w' = w.drewN n := by
  have e1 := or64 24 16777216 (a0 * 16777216) (a1 * 65536) rfl (by omega) (by omega) (by omega) (by omega) (by omega)
  have e2 := or64 16 65536 (a0 * 16777216 + a1 * 65536) (a2 * 256) rfl (by omega) (by omega) (by omega) (by omega) (by omega)
  have e3 := or64 8 256 (a0 * 16777216 + a1 * 65536 + a2 * 256) a3 rfl (by omega) (by omega) (by omega) (by omega) (by omega)
  have E : bits .or .i64 (bits .or .i64 (bits .or .i64 (a0 * 16777216) (a1 * 65536)) (a2 * 256)) a3 = a0 * 16777216 + a1 * 65536 + a2 * 256 + a3 := by rw [e1, e2, e3]
  have HE := Lib.hid E
  clear E e1 e2 e3
  go_enter Try.func27, Try.ntmps27
  go_wp2
  have g0 : (0 : Int) < l := by omega
  have g1 : (1 : Int) < l := by omega
  have g2 : (2 : Int) < l := by omega
  have g3 : (3 : Int) < l := by omega
  go_quiet (fail)
  go_wp2
  go_ret
  exact ⟨ret_int HE.out, _, rfl⟩

theorem ffq (xs : List Value) (g o q k c l : Nat) (w : World) (hs : Src0 xs g o w) (hq : q = o + k) (hk : k + 4 ≤ xs.length) (hl : 4 ≤ l) :
    Calls Try.prog 27 #[.slice (some ⟨g, q, none⟩) l c] w fun e w' => e = .returned (.int .i64 (nm xs k)) ∧ ∃ n, w' = w.drewN n := by
  subst hq
  refine (fromFour_q g (o + k) c l (bv xs k) (bv xs (k + 1)) (bv xs (k + 2)) (bv xs (k + 3)) w hl (hs.2 _ _ (bv_at hs.1 (by omega))).2
    (by rw [Nat.add_assoc]; exact (hs.2 _ _ (bv_at hs.1 (by omega))).2) (by rw [Nat.add_assoc]; exact (hs.2 _ _ (bv_at hs.1 (by omega))).2) (by rw [Nat.add_assoc]; exact (hs.2 _ _ (bv_at hs.1 (by omega))).2)
    (bv_in hs.1 _) (bv_in hs.1 _) (bv_in hs.1 _) (bv_in hs.1 _)).mono ?_
  rintro e w' ⟨rfl, h⟩
  exact ⟨by rw [nm_eq], h⟩

theorem Src0.drew {xs : List Value} {g o : Nat} {w : World} (h : Src0 xs g o w) : Src0 xs g o w.drew := ⟨h.1, fun j u hu => by simpa using h.2 j u hu⟩
theorem Src0.drewN {xs : List Value} {g o : Nat} {w : World} (h : Src0 xs g o w) (n : Nat) : Src0 xs g o (w.drewN n) := h.grow (below_drewN (Grow.refl w) n)
theorem Src0.alloc {xs : List Value} {g o : Nat} {w : World} (h : Src0 xs g o w) (ob : Obj) : Src0 xs g o (w.alloc ob) := h.grow ((Grow.refl w).alloc ob)

theorem Src0.setc {xs : List Value} {g o b j : Nat} {w : World} {v : Value} (h : Src0 xs g o w) (hb : g < b) : Src0 xs g o (w.setCell ⟨b, j, none⟩ v) := h.wrote ⟨_, _, rfl⟩ (fun _ => by omega)

structure SR (xs : List Value) (g o c R : Nat) (W0 : World) (v0 v1 v2 : Value) (l : List (Int × Int)) (W : World) : Prop where
  src : Src0 xs g o W
  c0 : W.cell? ⟨R + 1, 0, none⟩ = some v0
  c1 : W.cell? ⟨R + 1, 1, none⟩ = some v1
  c2 : W.cell? ⟨R + 1, 2, none⟩ = some v2
  f2 : W.frozen? ⟨R + 1, 2, none⟩ = false
  own : W.ownsRow (R + 1 + 1) 28 2 v2 l.length (cells2 l)
  bel : Below (R + 1) W0 W
  sz : R + 1 + 1 ≤ W.heap.size
  far : xs ≠ [] → g < R
  lu : InU l

section
variable {xs : List Value} {g o c R : Nat} {W0 W : World} {v0 v1 v2 : Value} {l : List (Int × Int)}
theorem SR.drewN (h : SR xs g o c R W0 v0 v1 v2 l W) (n : Nat) : SR xs g o c R W0 v0 v1 v2 l (W.drewN n) where
  src := h.src.drewN n
  c0 := by simpa using h.c0
  c1 := by simpa using h.c1
  c2 := by simpa using h.c2
  f2 := by simpa using h.f2
  own := own_below h.own (below_drewN (Grow.refl W) n)
  bel := below_drewN h.bel n
  sz := h.sz
  far := h.far
  lu := h.lu
theorem SR.past (h : SR xs g o c R W0 v0 v1 v2 l W) {w' : World} (hb : Below W.heap.size W w') :
    w'.cell? ⟨R + 1, 0, none⟩ = some v0 ∧ w'.cell? ⟨R + 1, 1, none⟩ = some v1 ∧ w'.cell? ⟨R + 1, 2, none⟩ = some v2 ∧ Below (R + 1) W0 w' := by
  have := h.sz
  exact ⟨(hb.cell (p := ⟨R + 1, 0, none⟩) (by simp; omega)).trans h.c0, (hb.cell (p := ⟨R + 1, 1, none⟩) (by simp; omega)).trans h.c1, (hb.cell (p := ⟨R + 1, 2, none⟩) (by simp; omega)).trans h.c2, h.bel.trans (hb.mono (by omega))⟩
end
theorem conv_rd {w : World} {g o c K : Nat} {xs : List Value} (h : RdB xs g o c w) (hK : xs.length = K) : ∀ n, (convert 31 9 (.slice (some ⟨g, o, none⟩) K c)).run Try.prog (w.drewN n) = .ok (.string (strOf xs)) (w.drewN n) := fun n =>
  conv_cells hK h.1 (fun j u hu => by simpa using h.2.2.2 j u hu)
section
variable {xs : List Value} {g o c R : Nat} {W0 W : World} {v0 v1 v2 : Value} {l : List (Int × Int)}
theorem SR.after (h : SR xs g o c R W0 v0 v1 v2 l W) {ob : Obj} {w4 : World} (hg : (W.alloc ob).grownBy w4 v2.ownBlock) : w4.cell? ⟨R + 1, 2, none⟩ = some v2 ∧ w4.frozen? ⟨R + 1, 2, none⟩ = false := by
  have hlow : ∀ k, v2.ownBlock = some k → R + 1 + 1 ≤ k := fun k hk => (h.own.lt k hk).1
  have hsz := h.sz
  have hblk : w4.heap[R + 1]? = W.heap[R + 1]? :=
    (hg.block _ (by simp; omega) (fun e => by have := hlow _ e.symm; omega)).trans (Below.heap_alloc _ _ _ (by omega))
  exact ⟨(World.cell?_of_block (a := ⟨R + 1, 2, none⟩) hblk).trans h.c2, (World.frozen?_of_block (a := ⟨R + 1, 2, none⟩) hblk).trans h.f2⟩
theorem SR.app (h : SR xs g o c R W0 v0 v1 v2 l W) {ob : Obj} {v' : Value} {w4 : World} {p : Int × Int} (h1 : 0 ≤ p.1 ∧ p.1 ≤ 4294967295) (h2 : 0 ≤ p.2 ∧ p.2 ≤ 4294967295)
    (hown : w4.ownsRow (R + 1 + 1) 28 2 v' (l.length + 1) (cells2 l ++ [.int .i64 p.1, .int .i64 p.2])) (hg : (W.alloc ob).grownBy w4 v2.ownBlock) :
    SR xs g o c R W0 v0 v1 v' (l ++ [p]) (w4.setCell ⟨R + 1, 2, none⟩ v') := by
  have hlow : ∀ k, v2.ownBlock = some k → R + 1 + 1 ≤ k := fun k hk => (h.own.lt k hk).1
  have hsz := h.sz
  have hsz4 : W.heap.size + 1 ≤ w4.heap.size := by have := hg.size; simpa using this
  have hblk : ∀ k, k < R + 1 + 1 → w4.heap[k]? = W.heap[k]? := fun k hk =>
    (hg.block k (by simp; omega) (fun e => by have := hlow k e.symm; omega)).trans (Below.heap_alloc _ _ _ (by omega))
  have hcell : ∀ k j, k < R + 1 + 1 → w4.cell? ⟨k, j, none⟩ = W.cell? ⟨k, j, none⟩ := fun k j hk => World.cell?_of_block (a := ⟨k, j, none⟩) (hblk k hk)
  have hfroz : ∀ k j, k < R + 1 + 1 → w4.frozen? ⟨k, j, none⟩ = W.frozen? ⟨k, j, none⟩ := fun k j hk => World.frozen?_of_block (a := ⟨k, j, none⟩) (hblk k hk)
  refine { src := ?_, c0 := ?_, c1 := ?_, c2 := ?_, f2 := ?_, own := ?_, bel := ?_, sz := ?_, far := h.far, lu := h.lu.snoc h1 h2 }
  · refine Src0.wrote (w := w4) ⟨h.src.1, fun j u hu => ?_⟩ ⟨_, _, rfl⟩ (fun hn => by have := h.far hn; omega)
    have hne : xs ≠ [] := by intro e; subst e; simp at hu
    have := h.far hne
    obtain ⟨q1, q2⟩ := h.src.2 j u hu
    exact ⟨by omega, by rw [hcell _ _ (by omega)]; exact q2⟩
  · rw [World.cell?_setCell_other _ _ _ _ (by simp), hcell _ _ (by omega)]; exact h.c0
  · rw [World.cell?_setCell_other _ _ _ _ (by simp), hcell _ _ (by omega)]; exact h.c1
  · exact World.cell?_setCell_same _ _ _ ((hcell _ _ (by omega)).trans h.c2)
  · rw [World.frozen?_setCell, hfroz _ _ (by omega)]; exact h.f2
  · rw [cells2_snoc, List.length_append, List.length_singleton]
    exact ownsRow_setCell_below hown (by simp) _
  · refine Below.setCell ?_ (by simp) _
    exact (h.bel.alloc (by omega) ob).grown hg (by simp; omega) (fun k hk => by have := hlow k hk; omega)
  · simp; omega
end
end Go.Proofs.Ytcfcdajglfipeaa
