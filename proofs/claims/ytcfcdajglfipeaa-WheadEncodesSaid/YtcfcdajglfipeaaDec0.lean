/-
  Bytes read as numbers, the reader's state, what Decode answers: plain; and the contract of reader.number over that state.
-/
import Derived.Test.YtcfcdajglfipeaaRNum
namespace Go.Proofs.Ytcfcdajglfipeaa
open Go.RowKit

def bv (xs : List Value) (i : Nat) : Int := match xs[i]? with | some (.int _ n) => n | _ => 0
theorem bv_at {xs : List Value} (h : AllU8 xs) {i : Nat} (hi : i < xs.length) : xs[i]? = some (.int .u8 (bv xs i)) := by
  obtain ⟨n, hn, _, _⟩ := h xs[i] (List.getElem_mem hi)
  simp [bv, List.getElem?_eq_getElem hi, hn]
theorem bv_in {xs : List Value} (h : AllU8 xs) (i : Nat) : 0 ≤ bv xs i ∧ bv xs i ≤ 255 := by
  by_cases hi : i < xs.length
  · obtain ⟨n, hn, h0, h1⟩ := h xs[i] (List.getElem_mem hi)
    simp only [bv, List.getElem?_eq_getElem hi, hn]
    omega
  · simp [bv, List.getElem?_eq_none (Nat.le_of_not_lt hi)]
/-- the number of four bytes at a place -/
def nm (xs : List Value) (i : Nat) : Int := pvn (fun j => bv xs (i + j)) 4
theorem nm_eq (xs : List Value) (i : Nat) : nm xs i = bv xs i * 16777216 + bv xs (i + 1) * 65536 + bv xs (i + 2) * 256 + bv xs (i + 3) := by
  simp only [nm, pvn]
  simp only [Nat.add_zero]
  omega
theorem nm_in {xs : List Value} (h : AllU8 xs) (i : Nat) : 0 ≤ nm xs i ∧ nm xs i ≤ 4294967295 := by
  rw [nm_eq]
  have := bv_in h i
  have := bv_in h (i + 1)
  have := bv_in h (i + 2)
  have := bv_in h (i + 3)
  omega
/-- the archives that the bytes hold -/
def arc1 (xs : List Value) (k : Nat) : Int × Int := (nm xs (20 + 12 * k), nm xs (24 + 12 * k))
def arcs (xs : List Value) : Nat → List (Int × Int)
  | 0 => []
  | k + 1 => arcs xs k ++ [arc1 xs k]
theorem arcs_length (xs : List Value) : ∀ k, (arcs xs k).length = k
  | 0 => rfl
  | k + 1 => by simp [arcs, arcs_length xs k]
def cells2 (l : List (Int × Int)) : List Value := l.flatMap fun p => [.int .i64 p.1, .int .i64 p.2]
theorem cells2_snoc (l : List (Int × Int)) (p : Int × Int) : cells2 (l ++ [p]) = cells2 l ++ [.int .i64 p.1, .int .i64 p.2] := by simp [cells2]
theorem cells2_length : ∀ l : List (Int × Int), (cells2 l).length = 2 * l.length
  | [] => rfl
  | p :: l => by
    have ih := cells2_length l
    have e : cells2 (p :: l) = .int .i64 p.1 :: .int .i64 p.2 :: cells2 l := by simp [cells2]
    rw [e]; simp [ih]; omega
theorem cells2_at : ∀ (l : List (Int × Int)) (i : Nat), i < l.length → (cells2 l)[2 * i]? = some (.int .i64 (at_ l i).1) ∧ (cells2 l)[2 * i + 1]? = some (.int .i64 (at_ l i).2)
  | [], i, h => absurd h (by simp)
  | p :: l, 0, _ => by simp [cells2, at_]
  | p :: l, i + 1, h => by
    have ih := cells2_at l i (by simpa using h)
    have e : cells2 (p :: l) = .int .i64 p.1 :: .int .i64 p.2 :: cells2 l := by simp [cells2]
    rw [e, show 2 * (i + 1) = 2 * i + 1 + 1 from by omega]
    simp only [List.getElem?_cons_succ]
    exact ⟨by rw [ih.1]; simp [at_], by rw [ih.2]; simp [at_]⟩
def InU (l : List (Int × Int)) : Prop := ∀ p ∈ l, 0 ≤ p.1 ∧ p.1 ≤ 4294967295 ∧ 0 ≤ p.2 ∧ p.2 ≤ 4294967295
theorem InU.nil : InU [] := fun p hp => by simp at hp
theorem InU.snoc {l : List (Int × Int)} (h : InU l) {p : Int × Int} (h1 : 0 ≤ p.1 ∧ p.1 ≤ 4294967295) (h2 : 0 ≤ p.2 ∧ p.2 ≤ 4294967295) : InU (l ++ [p]) := fun q hq => by
  simp only [List.mem_append, List.mem_singleton] at hq
  rcases hq with hq | rfl
  · exact h q hq
  · exact ⟨h1.1, h1.2, h2.1, h2.2⟩
theorem arcs_in {xs : List Value} (h : AllU8 xs) : ∀ k, InU (arcs xs k)
  | 0 => InU.nil
  | k + 1 => (arcs_in h k).snoc (nm_in h _) (nm_in h _)
theorem InU.at {l : List (Int × Int)} (h : InU l) {i : Nat} (hi : i < l.length) : I64 (at_ l i).1 ∧ I64 (at_ l i).2 := by
  have : at_ l i = l[i] := by simp [at_, hi]
  rw [this]
  obtain ⟨a, b, c, d⟩ := h l[i] (List.getElem_mem hi)
  exact ⟨⟨by omega, by omega⟩, ⟨by omega, by omega⟩⟩
theorem hd_of_own {w : World} {B g n c : Nat} {l : List (Int × Int)} (h : w.ownsRow B 28 2 (.slice (some ⟨g, 0, none⟩) n c) n (cells2 l)) (hl : l.length = n) (hu : InU l) (hc : n ≤ c) : Hd w (some ⟨g, 0, none⟩) n c l := by
  subst hl
  refine ⟨rfl, hc, fun i hi => hu.at hi, fun h0 => ⟨g, 0, rfl, (h.lt g rfl).2, fun i hi => ?_⟩⟩
  obtain ⟨e1, e2⟩ := cells2_at l i hi
  refine ⟨?_, ?_⟩
  · rw [show 0 + i * 2 = 2 * i from by omega, h.cellAt _ (by omega), e1]
  · rw [show 0 + i * 2 + 1 = 2 * i + 1 from by omega, h.cellAt _ (by omega), e2]
theorem hd_nil (w : World) : Hd w none 0 0 [] := ⟨rfl, Nat.le_refl _, fun i hi => absurd hi (by simp), fun h => absurd h (by omega)⟩

/-- bytes that lie somewhere -/
def Src0 (xs : List Value) (g o : Nat) (w : World) : Prop := AllU8 xs ∧ ∀ j u, xs[j]? = some u → g < w.heap.size ∧ w.cell? ⟨g, o + j, none⟩ = some u
theorem Src0.grow {xs : List Value} {g o : Nat} {w w' : World} (h : Src0 xs g o w) (hg : Grow w w') : Src0 xs g o w' :=
  ⟨h.1, fun j u hu => ⟨Nat.lt_of_lt_of_le (h.2 j u hu).1 hg.size, (Below.cell hg (p := ⟨g, _, none⟩) (h.2 j u hu).1).trans (h.2 j u hu).2⟩⟩
theorem Src0.below {xs : List Value} {g o : Nat} {w0 w w' : World} (h : Src0 xs g o w0) (hb : Below w0.heap.size w0 w') : Src0 xs g o w' := h.grow hb

/-- the reader's two cells -/
def Rd (xs : List Value) (g o c r m : Nat) (bad : Bool) (w : World) : Prop :=
  w.cell? ⟨r, 1, none⟩ = some (.bool bad) ∧ w.frozen? ⟨r, 0, none⟩ = false ∧ w.frozen? ⟨r, 1, none⟩ = false ∧ 4 * m ≤ xs.length ∧
    ∃ a, w.cell? ⟨r, 0, none⟩ = some (.slice a (xs.length - 4 * m) (c - 4 * m)) ∧ (4 * m < xs.length → a = some ⟨g, o + 4 * m, none⟩)
def nxt (xs : List Value) (m : Nat) : Nat := if 4 * m + 4 ≤ xs.length then m + 1 else m
def nv (xs : List Value) (m : Nat) : Int := if 4 * m + 4 ≤ xs.length then nm xs (4 * m) else 0
def nb (xs : List Value) (m : Nat) (bad : Bool) : Bool := if 4 * m + 4 ≤ xs.length then bad else true
theorem nv_in {xs : List Value} (h : AllU8 xs) (m : Nat) : 0 ≤ nv xs m ∧ nv xs m ≤ 4294967295 := by
  unfold nv
  split
  · exact nm_in h _
  · omega
/-- only block r was written -/
def Wrote (r : Nat) (w w' : World) : Prop := ∃ j v, w' = w.setCell ⟨r, j, none⟩ v
theorem Wrote.size {r : Nat} {w w' : World} (h : Wrote r w w') : w'.heap.size = w.heap.size := by obtain ⟨j, v, rfl⟩ := h; simp
theorem Wrote.cell {r : Nat} {w w' : World} (h : Wrote r w w') {b j : Nat} (hb : r ≠ b) : w'.cell? ⟨b, j, none⟩ = w.cell? ⟨b, j, none⟩ := by
  obtain ⟨i, v, rfl⟩ := h
  exact World.cell?_setCell_other _ _ _ _ (by simp [hb])
theorem Wrote.frozen {r : Nat} {w w' : World} (h : Wrote r w w') (b j : Nat) : w'.frozen? ⟨b, j, none⟩ = w.frozen? ⟨b, j, none⟩ := by
  obtain ⟨i, v, rfl⟩ := h
  simp
theorem Wrote.below {r B : Nat} {a w w' : World} (h : Wrote r w w') (hb : Below B a w) (hr : B ≤ r) : Below B a w' := by
  obtain ⟨i, v, rfl⟩ := h
  exact hb.setCell hr _
theorem Wrote.own {r base n size : Nat} {e : TypeId} {v : Value} {xs : List Value} {w w' : World} (h : Wrote r w w') (ho : w.ownsRow base e size v n xs) (hr : r < base) : w'.ownsRow base e size v n xs := by
  obtain ⟨i, u, rfl⟩ := h
  exact ownsRow_setCell_below ho hr u
/-- every cell of the bytes lies below block r: so they stay -/
theorem Src0.wrote {xs : List Value} {g o r : Nat} {w w' : World} (h : Src0 xs g o w) (hw : Wrote r w w') (hr : xs ≠ [] → g ≠ r) : Src0 xs g o w' := by
  refine ⟨h.1, fun j u hu => ?_⟩
  have hne : xs ≠ [] := by intro e; subst e; simp at hu
  obtain ⟨h1, h2⟩ := h.2 j u hu
  exact ⟨by rw [hw.size]; exact h1, by rw [hw.cell (fun e => hr hne e.symm)]; exact h2⟩

theorem rnum_st (xs : List Value) (g o c r m : Nat) (bad : Bool) (w : World) (hs : Src0 xs g o w) (hc : xs.length ≤ c) (hr : Rd xs g o c r m bad w) :
    Calls Try.prog 25 #[.pointer (some ⟨r, 0, none⟩)] w fun e w' => e = .returned (.int .i64 (nv xs m)) ∧ Rd xs g o c r (nxt xs m) (nb xs m bad) w' ∧ Wrote r w w' := by
  obtain ⟨r1, f0, f1, hm, a, r0, ha⟩ := hr
  by_cases h4 : 4 * m + 4 ≤ xs.length
  · obtain rfl := ha (by omega)
    refine (rnum_yes r g (o + 4 * m) (xs.length - 4 * m) (c - 4 * m) (fun j => bv xs (4 * m + j)) (fun j => bv_in hs.1 _) w r0 f0 (by omega) (by omega) (fun j hj => ?_)).mono ?_
    · have := (hs.2 (4 * m + j) _ (bv_at hs.1 (by omega))).2
      rw [Nat.add_assoc]
      exact this
    · rintro e w' ⟨rfl, o', ho, rfl⟩
      simp only [nv, nxt, nb, if_pos h4]
      refine ⟨rfl, ⟨?_, by simpa using f0, by simpa using f1, by omega, some ⟨g, o', none⟩, ?_, fun h => ?_⟩, _, _, rfl⟩
      · rw [World.cell?_setCell_other _ _ _ _ (by simp)]; exact r1
      · rw [World.cell?_setCell_same _ _ _ r0]
        congr 2 <;> omega
      · rw [ho (by omega)]
        congr 2
  · refine (rnum_no r (xs.length - 4 * m) (c - 4 * m) a bad w r0 r1 f1 (by omega)).mono ?_
    rintro e w' ⟨rfl, rfl⟩
    simp only [nv, nxt, nb, if_neg h4]
    refine ⟨trivial, ⟨?_, by simpa using f0, by simpa using f1, hm, a, ?_, ha⟩, _, _, rfl⟩
    · rw [World.cell?_setCell_same _ _ _ r1]
    · rw [World.cell?_setCell_other _ _ _ _ (by simp)]; exact r0

/-- what the header of the bytes is -/
def DecOk (xs : List Value) : Prop :=
  16 ≤ xs.length ∧ 1 ≤ nm xs 12 ∧ nm xs 12 ≤ 8 ∧ 16 + 12 * (nm xs 12).toNat ≤ xs.length ∧ May (nm xs 0) (nm xs 8) (arcs xs (nm xs 12).toNat) ∧
    eqB (xs.take (16 + 12 * (nm xs 12).toNat)) (hdB (nm xs 0) (nm xs 8) (arcs xs (nm xs 12).toNat)) = true
end Go.Proofs.Ytcfcdajglfipeaa
