/-
  The stack and the marks of graticuleref12's walk in memory.
-/
import Derived.Test.YtldcbkememonaaaPh
import Derived.Test.YtldcbkememonaaaF5

namespace Go.Proofs.Ytldcbkememonaaa
open Go.RowKit
set_option linter.unusedVariables false
set_option linter.unusedSimpArgs false

/-- the stack's cells -/
inductive W3 (w : World) : List (Way × Nat) → List Value → Prop
  | nil : W3 w [] []
  | cons (x : Way) (q : Nat) (xs : List (Way × Nat)) (pv : Value) (cs : List Value) : IntsIn x.ps pv w → W3 w xs cs → W3 w ((x, q) :: xs) ([.int .i64 x.at_, .int .i64 q, pv] ++ cs)
theorem W3.append {w : World} {a b : List (Way × Nat)} {x y : List Value} (h : W3 w a x) (k : W3 w b y) : W3 w (a ++ b) (x ++ y) := by
  induction h with
  | nil => exact k
  | cons d q ds pv cs h1 _ ih => rw [List.cons_append, List.append_assoc]; exact .cons d q _ pv _ h1 ih
theorem W3.len {w : World} {a : List (Way × Nat)} {x : List Value} (h : W3 w a x) : x.length = a.length * 3 := by
  induction h with
  | nil => rfl
  | cons d q ds pv cs h1 _ ih => simp [ih]; omega
theorem W3.stay {w w' : World} {a : List (Way × Nat)} {x : List Value} (h : W3 w a x) (hs : IntsStay w w') : W3 w' a x := by
  induction h with
  | nil => exact .nil
  | cons d q ds pv cs h1 _ ih => exact .cons d q ds pv cs (hs _ _ h1) ih
theorem W3.pop {w : World} {a : List (Way × Nat)} {y : Way} {q : Nat} {x : List Value} (h : W3 w (a ++ [(y, q)]) x) : ∃ z pv, x = z ++ [.int .i64 y.at_, .int .i64 q, pv] ∧ W3 w a z ∧ IntsIn y.ps pv w := by
  induction a generalizing x with
  | nil =>
    cases h with
    | cons d q ds pv cs h1 h2 =>
      cases h2
      exact ⟨[], pv, rfl, .nil, h1⟩
  | cons d a ih =>
    cases h with
    | cons d' q' ds pv cs h1 h2 =>
      obtain ⟨z, pv', rfl, h3, h4⟩ := ih h2
      exact ⟨[.int .i64 d'.at_, .int .i64 q', pv] ++ z, pv', by simp, .cons d' q' a pv z h1 h3, h4⟩
/-- is a place of the table marked -/
def mark (tx : ByteArray) (S : List (Int × Nat)) (j : Nat) : Bool := S.any fun p => idx tx p == (j : Int)
def marks (tx : ByteArray) (N : Nat) (S : List (Int × Nat)) : Array Value := ((List.range N).map fun j => Value.bool (mark tx S j)).toArray
theorem marks_size (tx : ByteArray) (N : Nat) (S : List (Int × Nat)) : (marks tx N S).size = N := by simp [marks]
theorem marks_at (tx : ByteArray) (N : Nat) (S : List (Int × Nat)) (j : Nat) (h : j < N) : (marks tx N S)[j]? = some (.bool (mark tx S j)) := by
  simp [marks, h]
theorem marks_new (tx : ByteArray) (N : Nat) : marks tx N [] = madeCells #[.bool false] N := by
  apply Array.toList_inj.1
  rw [toList_madeCells_one]
  apply List.ext_getElem
  · simp [marks]
  · intro i h1 h2
    simp [marks, mark]
theorem mark_iff {L : List Ins} {tx : ByteArray} {S : List (Int × Nat)} (h : WOk L tx S) (k q j : Nat) (hq : q ≤ tx.size) (hj : (j : Int) = idx tx (k, q)) : mark tx S j = S.contains ((k : Int), q) := by
  rw [Bool.eq_iff_iff]
  unfold mark
  rw [List.any_eq_true, List.contains_iff_mem]
  constructor
  · rintro ⟨p, hp, e⟩
    rw [beq_iff_eq, hj] at e
    have := idx_inj tx p (k, q) (h.rg p hp).2.2 hq e
    rw [← this]
    exact hp
  · intro hm
    exact ⟨_, hm, by rw [beq_iff_eq, hj]⟩
theorem marks_set (tx : ByteArray) (N : Nat) (S : List (Int × Nat)) (k q j : Nat) (hj : (j : Int) = idx tx (k, q)) : (marks tx N S).setIfInBounds j (.bool true) = marks tx N (((k : Int), q) :: S) := by
  apply Array.ext (by simp [marks_size])
  intro i h1 h2
  have h3 : i < N := by rw [marks_size] at h2; exact h2
  have h4 : i < (marks tx N S).size := by rw [marks_size]; exact h3
  rw [Array.getElem_setIfInBounds h4]
  have g1 := marks_at tx N S i h3
  have g2 := marks_at tx N (((k : Int), q) :: S) i h3
  rw [Array.getElem?_eq_getElem h2] at g2
  injection g2 with g2
  rw [g2]
  rw [Array.getElem?_eq_getElem h4] at g1
  injection g1 with g1
  split
  · rename_i e
    subst e
    simp [mark, hj]
  · rename_i e
    rw [g1]
    have : (idx tx ((k : Int), q) == (i : Int)) = false := by
      rw [beq_eq_false_iff_ne, ← hj]
      omega
    simp [mark, this]
theorem own93_not3 {w : World} {Bx n : Nat} {v : Value} {xs : List Value} (h : w.ownsRow Bx 93 3 v n xs) : ∀ q, v.ownBlock = some q → ∀ cur, w.heap[q]? ≠ some (.cells cur 3 (0, 0)) := fun q hq cur e => by
  rcases h.2 with ⟨h1, _⟩ | ⟨g, cap, cu, h1, _, h2, _⟩
  · rw [h1] at hq; cases hq
  · rw [h1] at hq
    have e' : g = q := by simpa [Value.ownBlock] using hq
    rw [e', e] at h2
    injection h2 with h2
    injection h2 with _ h2 _
    exact absurd h2 (by decide)
/-- the state of the walk -/
structure MW (tx : ByteArray) (N B bs : Nat) (W1 : World) (todo : List (Way × Nat)) (S : List (Int × Nat)) (tv : Value) (W : World) : Prop where
  own : ∃ cs, W.ownsRow B 93 3 tv todo.length cs ∧ W3 W todo.reverse cs
  seen : W.heap[bs]? = some (.cells (marks tx N S) 4 (0, 0))
  gr : Grow W1 W
  lo : W1.heap.size ≤ bs ∧ bs < B
section
variable {tx : ByteArray} {N B bs : Nat} {W1 : World} {todo : List (Way × Nat)} {S : List (Int × Nat)} {tv : Value} {W W' : World}
theorem Grow.trans2 {a b c : World} (h : Grow a b) (k : Grow b c) : Grow a c := Below.trans h (Below.mono k h.size)
theorem MW.grow (h : MW tx N B bs W1 todo S tv W) (hg : Grow W W') : MW tx N B bs W1 todo S tv W' := by
  obtain ⟨cs, h1, h2⟩ := h.own
  exact ⟨⟨cs, own_grow h1 hg, h2.stay (IntsStay.grow hg)⟩, (Below.block hg _ (lt_blk h.seen)).trans h.seen, h.gr.trans2 hg, h.lo⟩
theorem MW.push {w9 w10 : World} {todo' : List (Way × Nat)} {Y : List (Way × Nat)} {news cs : List Value} {tv' : Value} (h : MW tx N B bs W1 todo S tv W) (hg : Grow W w9) (hc : w9.ownsRow B 93 3 tv todo.length cs) (hw : W3 w9 todo.reverse cs)
    (hr : w9.grownBy w10 tv.ownBlock) (ho : w10.ownsRow B 93 3 tv' todo'.length (cs ++ news)) (hY : W3 w9 Y news) (hT : todo'.reverse = todo.reverse ++ Y) : MW tx N B bs W1 todo' S tv' w10 := by
  have h9 := h.grow hg
  have hst : IntsStay w9 w10 := IntsStay.grown hr (own93_not3 hc)
  have hlow : ∀ q, tv.ownBlock = some q → B ≤ q := fun q hq => (hc.lt q hq).1
  refine ⟨⟨cs ++ news, ho, by rw [hT]; exact (hw.append hY).stay hst⟩, ?_, ?_, h.lo⟩
  · rw [hr.block bs (lt_blk h9.seen) (fun e => by have := hlow bs e.symm; have := h.lo.2; omega)]
    exact h9.seen
  · exact Below.grown h9.gr hr h9.gr.size (fun q hq => by have := hlow q hq; have := h.lo; omega)
theorem MW.mark {k q j : Nat} (h : MW tx N B bs W1 todo S tv W) (hj : (j : Int) = idx tx (k, q)) : MW tx N B bs W1 todo (((k : Int), q) :: S) tv (W.setCell ⟨bs, j, none⟩ (.bool true)) := by
  obtain ⟨cs, h1, h2⟩ := h.own
  have hst : IntsStay W (W.setCell ⟨bs, j, none⟩ (.bool true)) := IntsStay.set (fun cur e => by
    rw [h.seen] at e
    injection e with e
    injection e with _ e _
    exact absurd e (by decide))
  refine ⟨⟨cs, own_set h1 h.lo.2 _, h2.stay hst⟩, ?_, ?_, h.lo⟩
  · rw [Go.heap_setCell_same W bs j _ _ _ h.seen, marks_set tx N S k q j hj]
  · exact h.gr.setCell h.lo.1 _
theorem own_pop3 {w : World} {B n cap g : Nat} {xs ys : List Value} (h : w.ownsRow B 93 3 (.slice (some ⟨g, 0, none⟩) (n + 1) cap) (n + 1) (xs ++ ys)) (hl : xs.length = n * 3) : w.ownsRow B 93 3 (.slice (some ⟨g, 0, none⟩) n cap) n xs := by
  rcases h.2 with ⟨h1, _⟩ | ⟨g', cap', cur, h1, h2, h3, h4, h5, h6, h7⟩
  · cases h1
  · injection h1 with h1 _ hc
    injection h1 with h1
    injection h1 with h1 _ _
    subst h1 hc
    refine ⟨hl, .inr ⟨g, cap, cur, rfl, h2, h3, by omega, h5, h6, ?_⟩⟩
    have : cur.toList.take (n * 3) = (cur.toList.take ((n + 1) * 3)).take (n * 3) := by rw [List.take_take, Nat.min_eq_left (by omega)]
    rw [this, h7, List.take_left' hl]
end
/-- what holds ahead of each round of the walk, so many rounds ahead of its end -/
structure AW (L : List Ins) (tx : ByteArray) (RES : Option (List Int)) (N B bs : Nat) (W1 : World) (m : Nat) (f : Nat) (tv : Value) (wr : World) : Prop where
  ex : ∃ (todo : List (Way × Nat)) (S : List (Int × Nat)), walkF L tx f todo S = some RES ∧ MW tx N B bs W1 todo S tv wr ∧ WOk L tx S ∧ (∀ p ∈ todo, wf64 p.1.at_ ∧ p.1.ps.length = m ∧ p.2 ≤ tx.size) ∧
    todo.length + 2 * (L.length * (tx.size + 1) - S.length) ≤ 2 * (L.length * (tx.size + 1)) + 1
end Go.Proofs.Ytldcbkememonaaa
