/-
  What turns in memory; bytes in memory that nobody writes again.
-/
import Derived.Test.YticpldjcmhpjoaaV7
import Derived.Test.YticpldjcmhpjoaaShelf
import Derived.Test.YticpldjcmhpjoaaApp
namespace Go.Proofs.Yticpldjcmhpjoaa
open Go.RowKit
set_option linter.unusedVariables false
set_option linter.unusedSimpArgs false

/-- memory turned in P's blocks alone, and no block of bytes turned -/
structure Turn (P : Nat → Prop) (w w' : World) : Prop where
  os : w'.os = w.os
  tape : w'.tape = w.tape
  output : w'.output = w.output
  size : w.heap.size ≤ w'.heap.size
  block : ∀ k, k < w.heap.size → ¬ P k → w'.heap[k]? = w.heap[k]?
  bytes : ∀ g x, w.cell? ⟨g, 0, none⟩ = some (.int .u8 x) → w'.heap[g]? = w.heap[g]?
theorem lt_of_cell {w : World} {a : Addr} {v : Value} (h : w.cell? a = some v) : a.block < w.heap.size := World.block_lt_of_cell? w a h
theorem cell_of_block {w w' : World} {a : Addr} (h : w'.heap[a.block]? = w.heap[a.block]?) : w'.cell? a = w.cell? a := by
  unfold World.cell?
  rw [h]
theorem Turn.of_grow {P : Nat → Prop} {w w' : World} (h : Grow w w') : Turn P w w' :=
  ⟨Below.os h, Below.tape h, Below.output h, Below.size h, fun k hk _ => Below.block h k hk, fun g x hx => Below.block h g (lt_of_cell hx)⟩
theorem Turn.refl (P : Nat → Prop) (w : World) : Turn P w w := Turn.of_grow (Grow.refl w)
theorem Turn.trans {P Q : Nat → Prop} {a b c : World} (h : Turn P a b) (k : Turn Q b c) (hq : ∀ n, n < a.heap.size → Q n → P n) : Turn P a c :=
  ⟨k.os.trans h.os, k.tape.trans h.tape, k.output.trans h.output, Nat.le_trans h.size k.size,
   fun n hn hp => (k.block n (Nat.lt_of_lt_of_le hn h.size) (fun hh => hp (hq n hn hh))).trans (h.block n hn hp),
   fun g x hx => by
    have e := h.bytes g x hx
    exact (k.bytes g x ((cell_of_block (a := ⟨g, 0, none⟩) e).trans hx)).trans e⟩
theorem Turn.mono {P Q : Nat → Prop} {a b : World} (h : Turn P a b) (hq : ∀ n, n < a.heap.size → P n → Q n) : Turn Q a b :=
  ⟨h.os, h.tape, h.output, h.size, fun n hn hp => h.block n hn (fun hh => hp (hq n hn hh)), h.bytes⟩
theorem Turn.cell {P : Nat → Prop} {w w' : World} (h : Turn P w w') {a : Addr} {v : Value} (ha : w.cell? a = some v) (hp : ¬ P a.block) : w'.cell? a = some v :=
  (cell_of_block (h.block a.block (lt_of_cell ha) hp)).trans ha
theorem Turn.below {P : Nat → Prop} {w w' : World} {B : Nat} (h : Turn P w w') (hB : B ≤ w.heap.size) (hp : ∀ n, P n → B ≤ n) : Below B w w' :=
  ⟨h.os, h.tape, h.output, h.size, fun k hk => h.block k (by omega) (fun hh => by have := hp k hh; omega)⟩
theorem Turn.of_map {w w' : World} {mb : Nat} (h : w.mapTurned w' mb) : Turn (fun k => k = mb) w w' := by
  obtain ⟨es, clock, es', clock', hb, rfl⟩ := h
  refine ⟨rfl, rfl, rfl, by simp [ChangeMaps.setBlock], fun k hk hp => by simp [ChangeMaps.setBlock, Array.getElem?_setIfInBounds, Ne.symm hp], fun g x hx => ?_⟩
  have hne : g ≠ mb := by
    rintro rfl
    unfold World.cell? at hx
    rw [hb] at hx
    simp at hx
  simp [ChangeMaps.setBlock, Array.getElem?_setIfInBounds, hne.symm]
theorem Turn.of_grown {w w' : World} {q : Option Nat} (h : w.grownBy w' q) (hq : ∀ g, q = some g → ∀ x, w.cell? ⟨g, 0, none⟩ ≠ some (.int .u8 x)) : Turn (fun k => q = some k) w w' :=
  ⟨h.os, h.tape, h.output, h.size, fun k hk hp => h.block k hk (fun e => hp e.symm), fun g x hx => h.block g (lt_of_cell hx) (fun e => hq g e.symm x hx)⟩
theorem Turn.of_set {w : World} {a : Addr} {v u : Value} (ha : w.cell? a = some u) (h0 : ∀ x, w.cell? ⟨a.block, 0, none⟩ ≠ some (.int .u8 x)) : Turn (fun k => k = a.block) w (w.setCell a v) :=
  ⟨rfl, rfl, rfl, by simp, fun k hk hp => heap_setCell_other _ _ _ _ hp, fun g x hx => heap_setCell_other _ _ _ _ (fun e => h0 x (by rw [← e]; exact hx))⟩

/-- v is a slice of the bytes l, in a block of P -/
def BytesIn (P : Nat → Prop) (w : World) (v : Value) (l : List UInt8) : Prop :=
  (v = .slice none 0 0 ∧ l = []) ∨ ∃ g c, v = .slice (some ⟨g, 0, none⟩) l.length c ∧ (∀ i x, l[i]? = some x → w.cell? ⟨g, i, none⟩ = some (.int .u8 (x.toNat : Int))) ∧ (l ≠ [] → P g) ∧ l.length ≤ c
theorem BytesIn.turn {P Q : Nat → Prop} {w w' : World} {v : Value} {l : List UInt8} (h : BytesIn P w v l) (ht : Turn Q w w') : BytesIn P w' v l := by
  rcases h with h | ⟨g, c, h1, h2, h3⟩
  · exact .inl h
  · refine .inr ⟨g, c, h1, fun i x hx => ?_, h3⟩
    cases l with
    | nil => simp at hx
    | cons y r =>
      have h0 := h2 0 y rfl
      exact (cell_of_block (a := ⟨g, i, none⟩) (ht.bytes g _ h0)).trans (h2 i x hx)
theorem BytesIn.mono {P Q : Nat → Prop} {w : World} {v : Value} {l : List UInt8} (h : BytesIn P w v l) (hq : ∀ n, n < w.heap.size → P n → Q n) : BytesIn Q w v l := by
  rcases h with h | ⟨g, c, h1, h2, h3⟩
  · exact .inl h
  · refine .inr ⟨g, c, h1, h2, fun hl => ?_, h3.2⟩
    cases l with
    | nil => exact absurd rfl hl
    | cons y r => exact hq g (lt_of_cell (h2 0 y rfl)) (h3.1 hl)
theorem BytesIn.shape {P : Nat → Prop} {w : World} {v : Value} {l : List UInt8} (h : BytesIn P w v l) : ∃ a c, v = .slice a l.length c := by
  rcases h with ⟨rfl, rfl⟩ | ⟨g, c, h1, _⟩
  · exact ⟨_, _, rfl⟩
  · exact ⟨_, _, h1⟩
theorem BytesIn.one {P : Nat → Prop} {w : World} {v : Value} {l : List UInt8} (h : BytesIn P w v l) : v.oneCell' = true := by
  obtain ⟨a, c, rfl⟩ := h.shape; rfl
theorem BytesIn.holds {P : Nat → Prop} {w : World} {v : Value} {l : List UInt8} (h : BytesIn P w v l) : Lib.HoldsBytes w v l := by
  rcases h with ⟨rfl, rfl⟩ | ⟨g, c, h1, h2, _⟩
  · exact ⟨none, 0, rfl, fun _ => rfl, fun a h => nomatch h⟩
  · refine ⟨some ⟨g, 0, none⟩, c, h1, (by intro h; cases h), fun a ha i x hx => ?_⟩
    injection ha with ha
    subst ha
    rw [add_plain, Nat.zero_add]
    exact h2 i x hx
/-- bytes as cells -/
def u8s (l : List UInt8) : List Value := l.map fun x => .int .u8 (x.toNat : Int)
theorem u8s_len (l : List UInt8) : (u8s l).length = l.length := by simp [u8s]
theorem u8s_one (l : List UInt8) : ∀ v ∈ u8s l, v.oneCell' = true := by
  intro v hv
  obtain ⟨x, _, rfl⟩ := List.mem_map.1 hv
  rfl
theorem u8s_get (l : List UInt8) (i : Nat) : (u8s l)[i]? = (l[i]?).map fun x => .int .u8 (x.toNat : Int) := by simp [u8s]
/-- v is a slice of the bytes l in a block of one's own -/
def OwnL (B : Nat) (w : World) (v : Value) (l : List UInt8) : Prop := w.ownsRow B 5 1 v l.length (u8s l)
theorem OwnL.bytes {B : Nat} {w : World} {v : Value} {l : List UInt8} (h : OwnL B w v l) : BytesIn (fun k => B ≤ k) w v l := by
  have hc := h
  unfold OwnL at h
  rcases h.2 with ⟨rfl, h0⟩ | ⟨g, cap, cur, rfl, hb, _, hnc, _⟩
  · exact .inl ⟨rfl, List.eq_nil_of_length_eq_zero h0⟩
  · exact .inr ⟨g, cap, rfl, fun i x hx => by have := World.ownsRow.cells (g := g) hc rfl i _ (show (u8s l)[i]? = some (.int .u8 (x.toNat : Int)) from by rw [u8s_get, hx]; rfl); rw [add_plain, Nat.zero_add] at this; exact this, fun _ => hb, hnc⟩
theorem clone_any {P : Nat → Prop} (v : Value) (l : List UInt8) (w : World) (h : BytesIn P w v l) (hl : l.length ≤ 140737488355328) :
    Calls Try.prog 34 #[v] w fun e w' => ∃ v', e = .returned v' ∧ OwnL w.heap.size w' v' l ∧ Below w.heap.size w w' := by
  rcases h with ⟨rfl, rfl⟩ | ⟨g, c, rfl, h2, _⟩
  · refine (Try.bytes_Clone_nil 0 0 w).mono ?_
    rintro e w' ⟨rfl, rfl⟩
    exact ⟨_, rfl, ⟨rfl, .inl ⟨rfl, rfl⟩⟩, Below.refl _ _⟩
  · refine (Try.bytes_Clone_at ⟨g, 0, none⟩ l.length c (l.map fun x => (x.toNat : Int)) w (by simp) hl (fun i hi => ?_)).mono ?_
    · rw [add_plain, Nat.zero_add, h2 i l[i] (List.getElem?_eq_getElem hi)]
      simp [List.getD, List.getElem?_eq_getElem hi]
    · rintro e w' ⟨v', rfl, h3, _, h5⟩
      exact ⟨v', rfl, by unfold OwnL u8s; rw [List.map_map] at h3; exact h3, h5⟩
end Go.Proofs.Yticpldjcmhpjoaa
