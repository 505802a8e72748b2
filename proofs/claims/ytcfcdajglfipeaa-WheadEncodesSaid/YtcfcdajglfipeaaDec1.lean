/-
  whead.Decode's state between two operations.
-/
import Derived.Test.YtcfcdajglfipeaaDec0
namespace Go.Proofs.Ytcfcdajglfipeaa
open Go.RowKit

theorem Try.info28 : (Try.prog.info? 28).map (fun i => (i.zero, i.size, i.bytes)) = some (some (.agg #[.int .i64 0, .int .i64 0]), 2, 16) := by kernel_rfl

structure St (xs : List Value) (g o c R : Nat) (W0 : World) (m : Nat) (bad : Bool) (v0 v1 v2 : Value) (l : List (Int × Int)) (W : World) : Prop where
  src : Src0 xs g o W
  rd : Rd xs g o c (R + 1) m bad W
  c0 : W.cell? ⟨R + 1 + 1, 0, none⟩ = some v0
  c1 : W.cell? ⟨R + 1 + 1, 1, none⟩ = some v1
  c2 : W.cell? ⟨R + 1 + 1, 2, none⟩ = some v2
  f0 : W.frozen? ⟨R + 1 + 1, 0, none⟩ = false
  f1 : W.frozen? ⟨R + 1 + 1, 1, none⟩ = false
  f2 : W.frozen? ⟨R + 1 + 1, 2, none⟩ = false
  own : W.ownsRow (R + 1 + 1 + 1) 28 2 v2 l.length (cells2 l)
  bel : Below (R + 1) W0 W
  sz : R + 1 + 1 + 1 ≤ W.heap.size
  far : xs ≠ [] → g < R
  lu : InU l
  xc : xs.length ≤ c

section
variable {xs : List Value} {g o c R m : Nat} {W0 W : World} {bad : Bool} {v0 v1 v2 : Value} {l : List (Int × Int)}

theorem St.wrote1 (h : St xs g o c R W0 m bad v0 v1 v2 l W) {m' : Nat} {bad' : Bool} {w' : World} (hr : Rd xs g o c (R + 1) m' bad' w') (hw : Wrote (R + 1) W w') : St xs g o c R W0 m' bad' v0 v1 v2 l w' where
  src := h.src.wrote hw (fun hn => by have := h.far hn; omega)
  rd := hr
  c0 := (hw.cell (by omega)).trans h.c0
  c1 := (hw.cell (by omega)).trans h.c1
  c2 := (hw.cell (by omega)).trans h.c2
  f0 := (hw.frozen _ _).trans h.f0
  f1 := (hw.frozen _ _).trans h.f1
  f2 := (hw.frozen _ _).trans h.f2
  own := hw.own h.own (by omega)
  bel := hw.below h.bel (by omega)
  sz := by rw [hw.size]; exact h.sz
  far := h.far
  lu := h.lu
  xc := h.xc

theorem Rd.other {r b : Nat} {w' : World} (h : Rd xs g o c r m bad W) (hc : ∀ j, w'.cell? ⟨r, j, none⟩ = W.cell? ⟨r, j, none⟩) (hf : ∀ j, w'.frozen? ⟨r, j, none⟩ = W.frozen? ⟨r, j, none⟩) : Rd xs g o c r m bad w' := by
  obtain ⟨h1, h2, h3, h4, a, h5, h6⟩ := h
  exact ⟨(hc 1).trans h1, (hf 0).trans h2, (hf 1).trans h3, h4, a, (hc 0).trans h5, h6⟩

theorem num_st (h : St xs g o c R W0 m bad v0 v1 v2 l W) :
    Calls Try.prog 25 #[.pointer (some ⟨R + 1, 0, none⟩)] W fun e w' => e = .returned (.int .i64 (nv xs m)) ∧ St xs g o c R W0 (nxt xs m) (nb xs m bad) v0 v1 v2 l w' :=
  (rnum_st xs g o c (R + 1) m bad W h.src h.xc h.rd).mono fun _ _ ⟨e, hr, hw⟩ => ⟨e, h.wrote1 hr hw⟩

theorem St.set0 (h : St xs g o c R W0 m bad v0 v1 v2 l W) (v : Value) : St xs g o c R W0 m bad v v1 v2 l (W.setCell ⟨R + 1 + 1, 0, none⟩ v) where
  src := h.src.wrote ⟨_, _, rfl⟩ (fun hn => by have := h.far hn; omega)
  rd := h.rd.other (b := 0) (fun j => World.cell?_setCell_other _ _ _ _ (by simp)) (fun j => by simp)
  c0 := World.cell?_setCell_same _ _ _ h.c0
  c1 := (World.cell?_setCell_other _ _ _ _ (by simp)).trans h.c1
  c2 := (World.cell?_setCell_other _ _ _ _ (by simp)).trans h.c2
  f0 := by simpa using h.f0
  f1 := by simpa using h.f1
  f2 := by simpa using h.f2
  own := ownsRow_setCell_below h.own (by simp) _
  bel := h.bel.setCell (by simp) _
  sz := by simpa using h.sz
  far := h.far
  lu := h.lu
  xc := h.xc

theorem St.set1 (h : St xs g o c R W0 m bad v0 v1 v2 l W) (v : Value) : St xs g o c R W0 m bad v0 v v2 l (W.setCell ⟨R + 1 + 1, 1, none⟩ v) where
  src := h.src.wrote ⟨_, _, rfl⟩ (fun hn => by have := h.far hn; omega)
  rd := h.rd.other (b := 0) (fun j => World.cell?_setCell_other _ _ _ _ (by simp)) (fun j => by simp)
  c0 := (World.cell?_setCell_other _ _ _ _ (by simp)).trans h.c0
  c1 := World.cell?_setCell_same _ _ _ h.c1
  c2 := (World.cell?_setCell_other _ _ _ _ (by simp)).trans h.c2
  f0 := by simpa using h.f0
  f1 := by simpa using h.f1
  f2 := by simpa using h.f2
  own := ownsRow_setCell_below h.own (by simp) _
  bel := h.bel.setCell (by simp) _
  sz := by simpa using h.sz
  far := h.far
  lu := h.lu
  xc := h.xc

theorem St.drew (h : St xs g o c R W0 m bad v0 v1 v2 l W) : St xs g o c R W0 m bad v0 v1 v2 l W.drew where
  src := ⟨h.src.1, fun j u hu => by simpa using h.src.2 j u hu⟩
  rd := h.rd.other (b := 0) (fun j => by simp) (fun j => by simp)
  c0 := by simpa using h.c0
  c1 := by simpa using h.c1
  c2 := by simpa using h.c2
  f0 := by simpa using h.f0
  f1 := by simpa using h.f1
  f2 := by simpa using h.f2
  own := own_below h.own (Grow.refl W).drew
  bel := h.bel.drew
  sz := by simpa using h.sz
  far := h.far
  lu := h.lu
  xc := h.xc

/-- behind the append and its store -/
theorem St.app (h : St xs g o c R W0 m bad v0 v1 v2 l W) {ob : Obj} {v' : Value} {w4 : World} {p : Int × Int} (h1 : 0 ≤ p.1 ∧ p.1 ≤ 4294967295) (h2 : 0 ≤ p.2 ∧ p.2 ≤ 4294967295)
    (hown : w4.ownsRow (R + 1 + 1 + 1) 28 2 v' (l.length + 1) (cells2 l ++ [.int .i64 p.1, .int .i64 p.2])) (hg : (W.alloc ob).grownBy w4 v2.ownBlock) :
    St xs g o c R W0 m bad v0 v1 v' (l ++ [p]) (w4.setCell ⟨R + 1 + 1, 2, none⟩ v') := by
  have hlow : ∀ k, v2.ownBlock = some k → R + 1 + 1 + 1 ≤ k := fun k hk => (h.own.lt k hk).1
  have hsz := h.sz
  have hsz4 : W.heap.size + 1 ≤ w4.heap.size := by have := hg.size; simpa using this
  have hblk : ∀ k, k < R + 1 + 1 + 1 → w4.heap[k]? = W.heap[k]? := fun k hk =>
    (hg.block k (by simp; omega) (fun e => by have := hlow k e.symm; omega)).trans (Below.heap_alloc _ _ _ (by omega))
  have hcell : ∀ k j, k < R + 1 + 1 + 1 → w4.cell? ⟨k, j, none⟩ = W.cell? ⟨k, j, none⟩ := fun k j hk => World.cell?_of_block (a := ⟨k, j, none⟩) (hblk k hk)
  have hfroz : ∀ k j, k < R + 1 + 1 + 1 → w4.frozen? ⟨k, j, none⟩ = W.frozen? ⟨k, j, none⟩ := fun k j hk => World.frozen?_of_block (a := ⟨k, j, none⟩) (hblk k hk)
  refine { src := ?_, rd := ?_, c0 := ?_, c1 := ?_, c2 := ?_, f0 := ?_, f1 := ?_, f2 := ?_, own := ?_, bel := ?_, sz := ?_, far := h.far, lu := h.lu.snoc h1 h2, xc := h.xc }
  · refine Src0.wrote (w := w4) ⟨h.src.1, fun j u hu => ?_⟩ ⟨_, _, rfl⟩ (fun hn => by have := h.far hn; omega)
    have hne : xs ≠ [] := by intro e; subst e; simp at hu
    have := h.far hne
    obtain ⟨q1, q2⟩ := h.src.2 j u hu
    exact ⟨by omega, by rw [hcell _ _ (by omega)]; exact q2⟩
  · exact h.rd.other (b := 0) (fun j => by rw [World.cell?_setCell_other _ _ _ _ (by simp), hcell _ _ (by omega)]) (fun j => by rw [World.frozen?_setCell, hfroz _ _ (by omega)])
  · rw [World.cell?_setCell_other _ _ _ _ (by simp), hcell _ _ (by omega)]; exact h.c0
  · rw [World.cell?_setCell_other _ _ _ _ (by simp), hcell _ _ (by omega)]; exact h.c1
  · exact World.cell?_setCell_same _ _ _ ((hcell _ _ (by omega)).trans h.c2)
  · rw [World.frozen?_setCell, hfroz _ _ (by omega)]; exact h.f0
  · rw [World.frozen?_setCell, hfroz _ _ (by omega)]; exact h.f1
  · rw [World.frozen?_setCell, hfroz _ _ (by omega)]; exact h.f2
  · rw [cells2_snoc, List.length_append, List.length_singleton]
    exact ownsRow_setCell_below hown (by simp) _
  · refine Below.setCell ?_ (by simp) _
    exact (h.bel.alloc (by omega) ob).grown hg (by simp; omega) (fun k hk => by have := hlow k hk; omega)
  · simp; omega
theorem St.after (h : St xs g o c R W0 m bad v0 v1 v2 l W) {ob : Obj} {w4 : World} (hg : (W.alloc ob).grownBy w4 v2.ownBlock) : w4.cell? ⟨R + 1 + 1, 2, none⟩ = some v2 ∧ w4.frozen? ⟨R + 1 + 1, 2, none⟩ = false := by
  have hlow : ∀ k, v2.ownBlock = some k → R + 1 + 1 + 1 ≤ k := fun k hk => (h.own.lt k hk).1
  have hsz := h.sz
  have hblk : w4.heap[R + 1 + 1]? = W.heap[R + 1 + 1]? :=
    (hg.block _ (by simp; omega) (fun e => by have := hlow _ e.symm; omega)).trans (Below.heap_alloc _ _ _ (by omega))
  exact ⟨(World.cell?_of_block (a := ⟨R + 1 + 1, 2, none⟩) hblk).trans h.c2, (World.frozen?_of_block (a := ⟨R + 1 + 1, 2, none⟩) hblk).trans h.f2⟩
end
end Go.Proofs.Ytcfcdajglfipeaa
