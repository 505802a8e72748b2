/-
  A set of numbers as a map in memory; ways in memory.
-/
import Derived.Test.YtldcbkememonaaaE1
import Derived.Maps.Own
import Derived.Maps.Views
namespace Go.Proofs.Ytldcbkememonaaa
open Go.RowKit
set_option linter.unusedVariables false
set_option linter.unusedSimpArgs false

theorem keyed3 : Maps.Keyed Try.prog 3 := Maps.int_keyed Try.underlying3
/-- numbers that were seen -/
def SeenAt (w : World) (mb : Nat) (S : List Int) : Prop :=
  ∃ (n : Nat) (D : DataW Unit), n ≤ S.length ∧ w.ownsMap Try.prog 3 (plainElem Try.prog 4) mb n D ∧ Maps.IsMap D ∧ ∀ x, (Lit.int .i64 x).wf = true → D.atKey (.int .i64 x) (.lit (.bool false)) = .lit (.bool (S.contains x))
theorem SeenAt.lt {w : World} {mb : Nat} {S : List Int} (h : SeenAt w mb S) : mb < w.heap.size := by
  obtain ⟨n, D, _, h1, _⟩ := h
  exact h1.lt
theorem SeenAt.kept {w w' : World} {mb : Nat} {S : List Int} (h : SeenAt w mb S) (hb : w'.heap[mb]? = w.heap[mb]?) : SeenAt w' mb S := by
  obtain ⟨n, D, h1, ⟨es, clock, h2, h3⟩, h4, h5⟩ := h
  exact ⟨n, D, h1, ⟨es, clock, hb.trans h2, h3⟩, h4, h5⟩
theorem SeenAt.blk {w : World} {mb : Nat} {S : List Int} (h : SeenAt w mb S) : ∃ es clock, w.heap[mb]? = some (.map es clock) := by
  obtain ⟨n, D, h1, ⟨es, clock, h2, h3⟩, h4, h5⟩ := h
  exact ⟨es, clock, h2⟩
theorem seen_new (w : World) : SeenAt (w.alloc (.map #[] 0)) w.heap.size [] := ⟨0, .map [], Nat.le_refl _, World.ownsMap_made w _ _ _, Maps.isMap_empty, fun x _ => rfl⟩
theorem bool_inv' {P : Program} {e : TypeId} (he : P.underlying e = some .bool) {v : Value} {b : Bool} {ps : List MemPlace} (h : plainElem (H := Unit) P e v = some (.lit (.bool b), ps)) : v = .bool b := by
  unfold plainElem at h
  rw [he] at h
  cases v <;> simp at h
  rw [h.1]
theorem bool_inv {v : Value} {b : Bool} {ps : List MemPlace} (h : plainElem (H := Unit) Try.prog 4 v = some (.lit (.bool b), ps)) : v = .bool b := bool_inv' Try.underlying4 h
theorem seen_look {w : World} {mb : Nat} {S : List Int} (h : SeenAt w mb S) (x : Int) (hx : (Lit.int .i64 x).wf = true) : (Instr.lookup 64 (.map (some mb)) (.int .i64 x) false).run Try.prog w = .ok (.bool (S.contains x)) w := by
  obtain ⟨n, D, _, h1, h2, h3⟩ := h
  obtain ⟨v, ps, hrun, hv⟩ := h1.lookup keyed3 Try.underlying64 (Try.zeroValue4 w) (plainElem_bool Try.underlying4 false) (Maps.keyOf_int_mk Try.underlying3 hx)
  have hat := h3 x hx
  obtain ⟨d, hd⟩ : ∃ d, d = D.atKey (.int .i64 x) (.lit (.bool false)) := ⟨_, rfl⟩
  rw [← hd] at hat hv
  subst hat
  have hb : v = .bool (S.contains x) := bool_inv hv
  rw [hb] at hrun
  exact hrun
theorem seen_put {w : World} {mb : Nat} {S : List Int} (h : SeenAt w mb S) (x : Int) (hx : (Lit.int .i64 x).wf = true) (hn : S.length < maxLen) :
    ∃ w', (Instr.mapUpdate 64 (.map (some mb)) (.int .i64 x) (.bool true)).run Try.prog w = .ok () w' ∧ SeenAt w' mb (x :: S) ∧ w.grownBy w' (some mb) := by
  obtain ⟨n, D, h0, h1, h2, h3⟩ := h
  have hk := Maps.keyOf_int_mk Try.underlying3 hx
  have hkl : WideAt.IsKeyLit (Lit.int .i64 x) := by first | trivial | simp [WideAt.IsKeyLit]
  obtain ⟨w', hrun, h4, h5⟩ := h1.update keyed3 Try.underlying64 (by omega) hk (plainElem_bool Try.underlying4 true)
  refine ⟨w', hrun, ⟨n + 1, _, by simp; omega, h4, h2.put _ _, fun y hy => ?_⟩, h5⟩
  by_cases e : y = x
  · subst e
    rw [Maps.atKey_put_same h2 hkl]
    simp
  · rw [Maps.atKey_put_other (by intro e2; injection e2 with _ e2; exact e e2), h3 y hy]
    have : (x :: S).contains y = S.contains y := by simp [e]
    rw [this]
/-- the store into the map, at a step of a region that draws its order -/
theorem step_seen {w : World} {ops : Array Oper} {o : Oper} {a : Act} {K : Act → World → Prop} {Q : Exit → Act → World → Prop} {E : Prop} (hgd : o.guard = none) (m x v : Operand)
    (ho : o.op = Op.mapUpdate 64 m x v) (mb : Nat) (S : List Int) (hS : SeenAt w mb S) (y : Int) (hm : a.eval m = .map (some mb)) (hx : a.eval x = .int .i64 y) (hv : a.eval v = .bool true) (hy : (Lit.int .i64 y).wf = true) (hn : S.length < maxLen)
    (h : ∀ w', SeenAt w' mb (y :: S) → w.grownBy w' (some mb) → K (a.put o.dst undef) w') : if Region.wanted o (yielded ops a.tmps) = true then Oper.wp Try.prog o a w K Q else E := by
  have hw : Region.wanted o (yielded ops a.tmps) = true := by simp [Region.wanted, hgd]
  rw [if_pos hw]
  obtain ⟨w', hrun, r1, r2⟩ := seen_put hS y hy hn
  unfold Oper.wp
  simp [execOp, ho, hm, hx, hv, hrun, Result.andThen]
  exact h _ r1 r2
/-- ways' cells -/
inductive WayCs (w : World) : List Way → List Value → Prop
  | nil : WayCs w [] []
  | cons (x : Way) (xs : List Way) (pv : Value) (cs : List Value) : IntsIn x.ps pv w → WayCs w xs cs → WayCs w (x :: xs) ([pv, .int .i64 x.at_] ++ cs)
theorem WayCs.append {w : World} {a b : List Way} {x y : List Value} (h : WayCs w a x) (k : WayCs w b y) : WayCs w (a ++ b) (x ++ y) := by
  induction h with
  | nil => exact k
  | cons d ds pv cs h1 _ ih => rw [List.cons_append, List.append_assoc]; exact .cons d _ pv _ h1 ih
theorem WayCs.len {w : World} {a : List Way} {x : List Value} (h : WayCs w a x) : x.length = a.length * 2 := by
  induction h with
  | nil => rfl
  | cons d ds pv cs h1 _ ih => simp [ih]; omega
/-- a world in which rows of numbers stayed -/
def IntsStay (w w' : World) : Prop := ∀ xs v, IntsIn xs v w → IntsIn xs v w'
theorem WayCs.stay {w w' : World} {a : List Way} {x : List Value} (h : WayCs w a x) (hs : IntsStay w w') : WayCs w' a x := by
  induction h with
  | nil => exact .nil
  | cons d ds pv cs h1 _ ih => exact .cons d ds pv cs (hs _ _ h1) ih
theorem IntsStay.refl (w : World) : IntsStay w w := fun _ _ h => h
theorem IntsStay.trans {a b c : World} (h : IntsStay a b) (k : IntsStay b c) : IntsStay a c := fun xs v hv => k xs v (h xs v hv)
theorem IntsStay.grow {w w' : World} (h : Grow w w') : IntsStay w w' := fun _ _ hv => hv.grow h
theorem IntsStay.grown {w w' : World} {row : Option Nat} (hg : w.grownBy w' row) (hr : ∀ q, row = some q → ∀ cur, w.heap[q]? ≠ some (.cells cur 3 (0, 0))) : IntsStay w w' := fun xs v hv => by
  refine World.ownsRow.kept hv hg ?_
  rcases hv.2 with ⟨h1, _⟩ | ⟨g, cap, cur, h1, _, h2, _⟩
  · left; rw [h1]; rfl
  · right
    rw [h1]
    intro e
    exact hr g e.symm cur h2
theorem IntsStay.set {w : World} {q j : Nat} {x : Value} (hr : ∀ cur, w.heap[q]? ≠ some (.cells cur 3 (0, 0))) : IntsStay w (w.setCell ⟨q, j, none⟩ x) :=
  IntsStay.grown (row := some q) ⟨rfl, rfl, rfl, by simp, fun k hk hkr => heap_setCell_other _ _ _ _ (fun e => hkr (by rw [e]))⟩ (fun p hp cur => by injection hp with hp; subst hp; exact hr cur)
theorem WayCs.at {w : World} {a : List Way} {x : List Value} (h : WayCs w a x) : ∀ k y, a[k]? = some y → ∃ pv, IntsIn y.ps pv w ∧ x[k * 2]? = some pv ∧ x[k * 2 + 1]? = some (.int .i64 y.at_) := by
  induction h with
  | nil => intro k y hk; simp at hk
  | cons d ds pv cs h1 _ ih =>
    intro k y hk
    cases k with
    | zero =>
      simp at hk
      subst hk
      exact ⟨pv, h1, rfl, rfl⟩
    | succ k =>
      obtain ⟨pv', a1, a2, a3⟩ := ih k y (by simpa using hk)
      refine ⟨pv', a1, ?_, ?_⟩
      · rw [show (k + 1) * 2 = k * 2 + 2 from by omega, List.getElem?_append_right (by simp)]; simpa using a2
      · rw [show (k + 1) * 2 + 1 = k * 2 + 1 + 2 from by omega, List.getElem?_append_right (by simp)]; simpa using a3
theorem IntsIn.one {xs : List Int} {v : Value} {w : World} (h : IntsIn xs v w) : v.oneCell' = true := by
  obtain ⟨a, c, rfl⟩ := h.shape; rfl
theorem WayCs.snoc {w : World} {a : List Way} {x : List Value} (h : WayCs w a x) (y : Way) (pv : Value) (h1 : IntsIn y.ps pv w) : WayCs w (a ++ [y]) (x ++ [pv, .int .i64 y.at_]) :=
  h.append (by have := WayCs.cons y [] pv [] h1 .nil; simpa using this)
/-- without the last -/
theorem WayCs.pop {w : World} {a : List Way} {y : Way} {x : List Value} (h : WayCs w (a ++ [y]) x) : ∃ z pv, x = z ++ [pv, .int .i64 y.at_] ∧ WayCs w a z ∧ IntsIn y.ps pv w := by
  induction a generalizing x with
  | nil =>
    cases h with
    | cons d ds pv cs h1 h2 =>
      cases h2
      exact ⟨[], pv, rfl, .nil, h1⟩
  | cons d a ih =>
    cases h with
    | cons d' ds pv cs h1 h2 =>
      obtain ⟨z, pv', rfl, h3, h4⟩ := ih h2
      exact ⟨[pv, .int .i64 d.at_] ++ z, pv', by simp, .cons d a pv z h1 h3, h4⟩
end Go.Proofs.Ytldcbkememonaaa
