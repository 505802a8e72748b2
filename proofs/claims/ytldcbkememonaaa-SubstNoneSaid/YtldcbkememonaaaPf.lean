/-
  What a way is; 'adds' as a plain function; the walk of laid.with. / A set of numbers as a map in memory; ways in memory. / What holds in pike's adds.
-/
import Derived.Test.YtldcbkememonaaaD1
import Derived.Test.YtldcbkememonaaaPj
import Derived.Maps.Own
import Derived.Maps.Views
namespace Go.Proofs.Ytldcbkememonaaa
open Go.RowKit
set_option linter.unusedVariables false
set_option linter.unusedSimpArgs false

/-- an instruction that a walk has come to, and what was laid down by then -/
structure Way where
  ps : List Int
  at_ : Int
def withF (ps : List Int) (i place : Int) : List Int := if 0 ≤ i ∧ i < ps.length then ps.set i.toNat place else ps
/-- 'adds', so many rounds; none: more are wanted. The first of todo is the top. -/
def addsF (L : List Ins) (tl place : Nat) : Nat → List Way → List Way → List Int → Option (List Way × List Int)
  | 0, todo, ws, seen => if todo.isEmpty then some (ws, seen) else none
  | _ + 1, [], ws, seen => some (ws, seen)
  | f + 1, x :: rest, ws, seen =>
    if x.at_ < 0 ∨ (L.length : Int) ≤ x.at_ ∨ seen.contains x.at_ = true then addsF L tl place f rest ws seen
    else match L[x.at_.toNat]? with
      | none => none
      | some i =>
        if i.op = 1 ∨ i.op = 7 then addsF L tl place f rest (ws ++ [x]) (x.at_ :: seen)
        else if i.op = 2 then addsF L tl place f (⟨x.ps, i.x⟩ :: ⟨x.ps, i.y⟩ :: rest) ws (x.at_ :: seen)
        else if i.op = 3 then addsF L tl place f (⟨x.ps, i.x⟩ :: rest) ws (x.at_ :: seen)
        else if i.op = 4 then addsF L tl place f (⟨withF x.ps i.x place, x.at_ + 1⟩ :: rest) ws (x.at_ :: seen)
        else if i.op = 5 then addsF L tl place f (if place = 0 then ⟨x.ps, x.at_ + 1⟩ :: rest else rest) ws (x.at_ :: seen)
        else if i.op = 6 then addsF L tl place f (if place = tl then ⟨x.ps, x.at_ + 1⟩ :: rest else rest) ws (x.at_ :: seen)
        else addsF L tl place f rest ws (x.at_ :: seen)
/-- numbers in memory -/
def IntsIn (xs : List Int) (v : Value) (w : World) : Prop := w.ownsRow 0 3 1 v xs.length (xs.map (Value.int .i64))
theorem IntsIn.grow {xs : List Int} {v : Value} {w w' : World} (h : IntsIn xs v w) (hb : Grow w w') : IntsIn xs v w' := own_grow h hb
theorem IntsIn.shape {xs : List Int} {v : Value} {w : World} (h : IntsIn xs v w) : ∃ a c, v = .slice a xs.length c := by
  obtain ⟨a, c, h1, _⟩ := own_shape h
  exact ⟨a, c, h1⟩
theorem clone_any (xs : List Int) (v : Value) (w : World) (h : IntsIn xs v w) (hn : xs.length ≤ 100000) :
    Calls Try.prog 32 #[v] w fun e w' => ∃ v', e = .returned v' ∧ w'.ownsRow w.heap.size 3 1 v' xs.length (xs.map (Value.int .i64)) ∧ Grow w w' := by
  rcases h.2 with ⟨h1, h2⟩ | ⟨g, cap, cur, h1, _, h2, h3, _⟩
  · subst h1
    refine (Try.slices_Clone_int_nil 0 0 w).mono ?_
    rintro e w' ⟨rfl, rfl⟩
    refine ⟨_, rfl, ?_, Grow.refl _⟩
    have hx : xs = [] := by simpa using h2
    subst hx
    exact World.ownsRow_nil _ _ _ _
  · subst h1
    refine (Try.slices_Clone_int g 0 xs.length cap xs w (Nat.le_refl _) (by omega) ?_).mono ?_
    · intro j hj
      have := World.ownsRow.cellAt h j (by omega)
      rw [Nat.zero_add, this]
      simp [hj]
    · rintro e w' ⟨v', rfl, ho, _, hb⟩
      rw [List.take_length] at ho
      exact ⟨v', rfl, ho, hb⟩
theorem own_setI {w : World} {B n cap g j : Nat} {xs : List Int} (h : w.ownsRow B 3 1 (.slice (some ⟨g, 0, none⟩) n cap) n (xs.map (Value.int .i64))) (hl : xs.length = n) (hj : j < n) (x : Int) :
    (w.setCell ⟨g, j, none⟩ (.int .i64 x)).ownsRow B 3 1 (.slice (some ⟨g, 0, none⟩) n cap) n ((xs.set j x).map (Value.int .i64)) := by
  rcases h.2 with ⟨h1, _⟩ | ⟨g', cap', cur, h1, h2, h3, h4, h5, h6, h7⟩
  · cases h1
  · injection h1 with h1 _ hc
    injection h1 with h1
    injection h1 with h1 _ _
    subst h1 hc
    refine ⟨by simp [hl], .inr ⟨g, cap, cur.setIfInBounds j (.int .i64 x), rfl, h2, Go.heap_setCell_same w g j _ _ _ h3, h4, h5, by simpa using h6, ?_⟩⟩
    apply List.ext_getElem?
    intro i
    rw [List.getElem?_take, List.getElem?_map, List.getElem?_set, Array.getElem?_toList, Array.getElem?_setIfInBounds]
    have h8 : (cur.toList.take (n * 1))[i]? = (xs.map (Value.int .i64))[i]? := by rw [h7]
    rw [List.getElem?_take, Array.getElem?_toList, List.getElem?_map] at h8
    have hb2 : j < cur.size := by omega
    by_cases hi : j = i
    · subst hi
      rw [if_pos (by omega), if_pos rfl, if_pos rfl, if_pos hb2, if_pos (by omega)]
      rfl
    · rw [if_neg hi, if_neg hi]
      exact h8
set_option maxHeartbeats 1000000 in
theorem with_any (ps : List Int) (i place : Int) (v : Value) (w : World) (h : IntsIn ps v w) (hn : ps.length ≤ 100000) :
    Calls Try.prog 40 #[.agg #[v], .int .i64 i, .int .i64 place] w fun e w' => ∃ v', e = .returned (.agg #[v']) ∧ IntsIn (withF ps i place) v' w' ∧ Grow w w' := by
  obtain ⟨a, c, rfl⟩ := h.shape
  obtain ⟨n, hN⟩ : ∃ n, n = ps.length := ⟨_, rfl⟩
  have HN := Lib.hid hN
  rw [← hN] at hn ⊢
  by_cases h1 : i < 0
  · have e : withF ps i place = ps := by unfold withF; rw [if_neg (by omega)]
    rw [e]
    have H := Lib.hid h
    clear h hN
    go_enter Try.func40, Try.ntmps40
    go_wp2
    refine bodyPost_ret (v := .agg #[.slice a n c]) (by simp [results, Try.results40, go_sem]) rfl ?_
    exact ⟨_, rfl, by have := H.out; rw [← HN.out] at this; exact this.grow (((Grow.refl _).alloc _).alloc _), ((Grow.refl _).alloc _).alloc _⟩
  · by_cases h2 : (n : Int) ≤ i
    · have e : withF ps i place = ps := by unfold withF; rw [if_neg (by omega)]
      rw [e]
      have h3 : ¬ i < (n : Int) := by omega
      have H := Lib.hid h
      clear h hN
      go_enter Try.func40, Try.ntmps40
      go_wp2
      refine bodyPost_ret (v := .agg #[.slice a n c]) (by simp [results, Try.results40, go_sem]) rfl ?_
      exact ⟨_, rfl, by have := H.out; rw [← HN.out] at this; exact this.grow (((Grow.refl _).alloc _).alloc _), ((Grow.refl _).alloc _).alloc _⟩
    · have h3 : i < (n : Int) := by omega
      have h4 : 0 ≤ i := by omega
      obtain ⟨k, rfl⟩ : ∃ k : Nat, i = k := ⟨i.toNat, by omega⟩
      have e : withF ps k place = ps.set k place := by unfold withF; rw [if_pos (by omega)]; rfl
      rw [e]
      have CL := Lib.hid (clone_any ps (.slice a ps.length c) ((w.alloc (.cells #[.slice a n c] 70)).alloc (.cells #[.slice none 0 0] 70)) (h.grow (((Grow.refl _).alloc _).alloc _)) (by omega))
      rw [← hN] at CL
      have Z := Lib.hid (heap_alloc_two w (.cells #[.slice a n c] 70) (.cells #[.slice none 0 0] 70))
      clear h hN e
      go_enter Try.func40, Try.ntmps40
      go_wp2_with fail
      refine CL.out.mono ?_
      rintro e w1 ⟨v1, rfl, own, g1⟩
      obtain ⟨g, cp, rfl, hB, hg⟩ := own.form (by omega)
      have hb := (Below.block g1 _ (by simp)).trans Z.out
      have b0 := cell_blk hb 0
      have fb0 := froz_blk hb 0
      simp at b0
      have hck : ∃ u, w1.cell? ⟨g, k, none⟩ = some u := by
        rw [World.ownsRow.cellAt own k (by omega)]
        exact ⟨_, List.getElem?_eq_getElem (by rw [List.length_map, ← HN.out]; omega)⟩
      obtain ⟨u, hu⟩ := hck
      have fk : w1.frozen? ⟨g, k, none⟩ = false := by
        rcases own.2 with ⟨h1, _⟩ | ⟨g', cap', cur, h1, _, h3, _⟩
        · cases h1
        · injection h1 with h1 _ _
          injection h1 with h1
          injection h1 with h1 _ _
          subst h1
          exact froz_blk h3 _
      have hsz : w.heap.size + 2 ≤ g := by simpa using hB
      have hne : g ≠ w.heap.size + 1 := by omega
      have OW := Lib.hid (own_setI (j := k) own HN.out.symm (by omega) place)
      have G1 := Lib.hid ((((Grow.refl w).alloc _).alloc _).trans g1)
      have zb : w.heap.size + 1 < w1.heap.size := lt_blk hb
      clear own g1 hb
      go_wp2
      refine bodyPost_ret (v := .agg #[.slice (some ⟨g, 0, none⟩) n cp]) (by simp [results, Try.results40, go_sem, b0, zb, hne, Ne.symm hne]) rfl ?_
      refine ⟨_, rfl, ?_, (G1.out.setCell (by simp only; omega) _).setCell (by simp only; omega) _⟩
      have := own_set (j := 0) OW.out (show w.heap.size + 1 < ((w.alloc (.cells #[.slice a n c] 70)).alloc (.cells #[.slice none 0 0] 70)).heap.size by simp) (.slice (some ⟨g, 0, none⟩) n cp)
      unfold IntsIn
      rw [List.length_set, ← HN.out]
      exact Joins.ownsRow_le this (Nat.zero_le _)
end Go.Proofs.Ytldcbkememonaaa

namespace Go.Proofs.Ytldcbkememonaaa
open Go.RowKit
set_option linter.unusedVariables false
set_option linter.unusedSimpArgs false

theorem keyed3 : Maps.Keyed Try.prog 3 := Maps.int_keyed Try.underlying3
/-- numbers that were seen -/
def SeenAt (w : World) (mb : Nat) (S : List Int) : Prop :=
  ∃ (n : Nat) (D : DataW Unit), n ≤ S.length ∧ w.ownsMap Try.prog 3 (plainElem Try.prog 4) mb n D ∧ Maps.IsMap D ∧ ∀ x, (Lit.int .i64 x).wf = true → D.atKey (.int .i64 x) (.lit (.bool false)) = .lit (.bool (S.contains x))
theorem SeenAt.lt {w : World} {mb : Nat} {S : List Int} (h : SeenAt w mb S) : mb < w.heap.size := by
  obtain ⟨n, D, _, h1, _⟩ := h
  exact h1.lt
theorem SeenAt.kept {w w' : World} {mb : Nat} {S : List Int} (h : SeenAt w mb S) (hb : w'.heap[mb]? = w.heap[mb]?) : SeenAt w' mb S := by
  obtain ⟨n, D, h1, ⟨es, clock, h2, h3⟩, h4, h5⟩ := h
  exact ⟨n, D, h1, ⟨es, clock, hb.trans h2, h3⟩, h4, h5⟩
theorem SeenAt.blk {w : World} {mb : Nat} {S : List Int} (h : SeenAt w mb S) : ∃ es clock, w.heap[mb]? = some (.map es clock) := by
  obtain ⟨n, D, h1, ⟨es, clock, h2, h3⟩, h4, h5⟩ := h
  exact ⟨es, clock, h2⟩
theorem seen_new (w : World) : SeenAt (w.alloc (.map #[] 0)) w.heap.size [] := ⟨0, .map [], Nat.le_refl _, World.ownsMap_made w _ _ _, Maps.isMap_empty, fun x _ => rfl⟩
theorem bool_inv' {P : Program} {e : TypeId} (he : P.underlying e = some .bool) {v : Value} {b : Bool} {ps : List MemPlace} (h : plainElem (H := Unit) P e v = some (.lit (.bool b), ps)) : v = .bool b := by
  unfold plainElem at h
  rw [he] at h
  cases v <;> simp at h
  rw [h.1]
theorem bool_inv {v : Value} {b : Bool} {ps : List MemPlace} (h : plainElem (H := Unit) Try.prog 4 v = some (.lit (.bool b), ps)) : v = .bool b := bool_inv' Try.underlying4 h
theorem seen_look {w : World} {mb : Nat} {S : List Int} (h : SeenAt w mb S) (x : Int) (hx : (Lit.int .i64 x).wf = true) : (Instr.lookup 64 (.map (some mb)) (.int .i64 x) false).run Try.prog w = .ok (.bool (S.contains x)) w := by
  obtain ⟨n, D, _, h1, h2, h3⟩ := h
  obtain ⟨v, ps, hrun, hv⟩ := h1.lookup keyed3 Try.underlying64 (Try.zeroValue4 w) (plainElem_bool Try.underlying4 false) (Maps.keyOf_int_mk Try.underlying3 hx)
  have hat := h3 x hx
  obtain ⟨d, hd⟩ : ∃ d, d = D.atKey (.int .i64 x) (.lit (.bool false)) := ⟨_, rfl⟩
  rw [← hd] at hat hv
  subst hat
  have hb : v = .bool (S.contains x) := bool_inv hv
  rw [hb] at hrun
  exact hrun
theorem seen_put {w : World} {mb : Nat} {S : List Int} (h : SeenAt w mb S) (x : Int) (hx : (Lit.int .i64 x).wf = true) (hn : S.length < maxLen) :
    ∃ w', (Instr.mapUpdate 64 (.map (some mb)) (.int .i64 x) (.bool true)).run Try.prog w = .ok () w' ∧ SeenAt w' mb (x :: S) ∧ w.grownBy w' (some mb) := by
  obtain ⟨n, D, h0, h1, h2, h3⟩ := h
  have hk := Maps.keyOf_int_mk Try.underlying3 hx
  have hkl : WideAt.IsKeyLit (Lit.int .i64 x) := by first | trivial | simp [WideAt.IsKeyLit]
  obtain ⟨w', hrun, h4, h5⟩ := h1.update keyed3 Try.underlying64 (by omega) hk (plainElem_bool Try.underlying4 true)
  refine ⟨w', hrun, ⟨n + 1, _, by simp; omega, h4, h2.put _ _, fun y hy => ?_⟩, h5⟩
  by_cases e : y = x
  · subst e
    rw [Maps.atKey_put_same h2 hkl]
    simp
  · rw [Maps.atKey_put_other (by intro e2; injection e2 with _ e2; exact e e2), h3 y hy]
    have : (x :: S).contains y = S.contains y := by simp [e]
    rw [this]
/-- the store into the map, at a step of a region that draws its order -/
theorem step_seen {w : World} {ops : Array Oper} {o : Oper} {a : Act} {K : Act → World → Prop} {Q : Exit → Act → World → Prop} {E : Prop} (hgd : o.guard = none) (m x v : Operand)
    (ho : o.op = Op.mapUpdate 64 m x v) (mb : Nat) (S : List Int) (hS : SeenAt w mb S) (y : Int) (hm : a.eval m = .map (some mb)) (hx : a.eval x = .int .i64 y) (hv : a.eval v = .bool true) (hy : (Lit.int .i64 y).wf = true) (hn : S.length < maxLen)
    (h : ∀ w', SeenAt w' mb (y :: S) → w.grownBy w' (some mb) → K (a.put o.dst undef) w') : if Region.wanted o (yielded ops a.tmps) = true then Oper.wp Try.prog o a w K Q else E := by
  have hw : Region.wanted o (yielded ops a.tmps) = true := by simp [Region.wanted, hgd]
  rw [if_pos hw]
  obtain ⟨w', hrun, r1, r2⟩ := seen_put hS y hy hn
  unfold Oper.wp
  simp [execOp, ho, hm, hx, hv, hrun, Result.andThen]
  exact h _ r1 r2
/-- ways' cells -/
inductive WayCs (w : World) : List Way → List Value → Prop
  | nil : WayCs w [] []
  | cons (x : Way) (xs : List Way) (pv : Value) (cs : List Value) : IntsIn x.ps pv w → WayCs w xs cs → WayCs w (x :: xs) ([pv, .int .i64 x.at_] ++ cs)
theorem WayCs.append {w : World} {a b : List Way} {x y : List Value} (h : WayCs w a x) (k : WayCs w b y) : WayCs w (a ++ b) (x ++ y) := by
  induction h with
  | nil => exact k
  | cons d ds pv cs h1 _ ih => rw [List.cons_append, List.append_assoc]; exact .cons d _ pv _ h1 ih
theorem WayCs.len {w : World} {a : List Way} {x : List Value} (h : WayCs w a x) : x.length = a.length * 2 := by
  induction h with
  | nil => rfl
  | cons d ds pv cs h1 _ ih => simp [ih]; omega
/-- a world in which rows of numbers stayed -/
def IntsStay (w w' : World) : Prop := ∀ xs v, IntsIn xs v w → IntsIn xs v w'
theorem WayCs.stay {w w' : World} {a : List Way} {x : List Value} (h : WayCs w a x) (hs : IntsStay w w') : WayCs w' a x := by
  induction h with
  | nil => exact .nil
  | cons d ds pv cs h1 _ ih => exact .cons d ds pv cs (hs _ _ h1) ih
theorem IntsStay.refl (w : World) : IntsStay w w := fun _ _ h => h
theorem IntsStay.trans {a b c : World} (h : IntsStay a b) (k : IntsStay b c) : IntsStay a c := fun xs v hv => k xs v (h xs v hv)
theorem IntsStay.grow {w w' : World} (h : Grow w w') : IntsStay w w' := fun _ _ hv => hv.grow h
theorem IntsStay.grown {w w' : World} {row : Option Nat} (hg : w.grownBy w' row) (hr : ∀ q, row = some q → ∀ cur, w.heap[q]? ≠ some (.cells cur 3 (0, 0))) : IntsStay w w' := fun xs v hv => by
  refine World.ownsRow.kept hv hg ?_
  rcases hv.2 with ⟨h1, _⟩ | ⟨g, cap, cur, h1, _, h2, _⟩
  · left; rw [h1]; rfl
  · right
    rw [h1]
    intro e
    exact hr g e.symm cur h2
theorem IntsStay.set {w : World} {q j : Nat} {x : Value} (hr : ∀ cur, w.heap[q]? ≠ some (.cells cur 3 (0, 0))) : IntsStay w (w.setCell ⟨q, j, none⟩ x) :=
  IntsStay.grown (row := some q) ⟨rfl, rfl, rfl, by simp, fun k hk hkr => heap_setCell_other _ _ _ _ (fun e => hkr (by rw [e]))⟩ (fun p hp cur => by injection hp with hp; subst hp; exact hr cur)
theorem WayCs.at {w : World} {a : List Way} {x : List Value} (h : WayCs w a x) : ∀ k y, a[k]? = some y → ∃ pv, IntsIn y.ps pv w ∧ x[k * 2]? = some pv ∧ x[k * 2 + 1]? = some (.int .i64 y.at_) := by
  induction h with
  | nil => intro k y hk; simp at hk
  | cons d ds pv cs h1 _ ih =>
    intro k y hk
    cases k with
    | zero =>
      simp at hk
      subst hk
      exact ⟨pv, h1, rfl, rfl⟩
    | succ k =>
      obtain ⟨pv', a1, a2, a3⟩ := ih k y (by simpa using hk)
      refine ⟨pv', a1, ?_, ?_⟩
      · rw [show (k + 1) * 2 = k * 2 + 2 from by omega, List.getElem?_append_right (by simp)]; simpa using a2
      · rw [show (k + 1) * 2 + 1 = k * 2 + 1 + 2 from by omega, List.getElem?_append_right (by simp)]; simpa using a3
theorem IntsIn.one {xs : List Int} {v : Value} {w : World} (h : IntsIn xs v w) : v.oneCell' = true := by
  obtain ⟨a, c, rfl⟩ := h.shape; rfl
theorem WayCs.snoc {w : World} {a : List Way} {x : List Value} (h : WayCs w a x) (y : Way) (pv : Value) (h1 : IntsIn y.ps pv w) : WayCs w (a ++ [y]) (x ++ [pv, .int .i64 y.at_]) :=
  h.append (by have := WayCs.cons y [] pv [] h1 .nil; simpa using this)
/-- without the last -/
theorem WayCs.pop {w : World} {a : List Way} {y : Way} {x : List Value} (h : WayCs w (a ++ [y]) x) : ∃ z pv, x = z ++ [pv, .int .i64 y.at_] ∧ WayCs w a z ∧ IntsIn y.ps pv w := by
  induction a generalizing x with
  | nil =>
    cases h with
    | cons d ds pv cs h1 h2 =>
      cases h2
      exact ⟨[], pv, rfl, .nil, h1⟩
  | cons d a ih =>
    cases h with
    | cons d' ds pv cs h1 h2 =>
      obtain ⟨z, pv', rfl, h3, h4⟩ := ih h2
      exact ⟨[pv, .int .i64 d.at_] ++ z, pv', by simp, .cons d a pv z h1 h3, h4⟩
end Go.Proofs.Ytldcbkememonaaa

namespace Go.Proofs.Ytldcbkememonaaa
open Go.RowKit
set_option linter.unusedVariables false
set_option linter.unusedSimpArgs false

theorem exists_least {p : Nat → Prop} (h : ∃ n, p n) : ∃ n, p n ∧ ∀ m, p m → n ≤ m := by
  obtain ⟨n, hn⟩ := h
  induction n using Nat.strongRecOn with
  | ind n ih =>
    by_cases hm : ∃ m, m < n ∧ p m
    · obtain ⟨m, h1, h2⟩ := hm
      exact ih m h1 h2
    · exact ⟨n, hn, fun m h2 => by
        rcases Nat.lt_or_ge m n with h3 | h3
        · exact absurd ⟨m, h3, h2⟩ hm
        · exact h3⟩
open Classical in
/-- the least that serves -/
noncomputable def least (p : Nat → Prop) : Nat := if h : ∃ n, p n then (exists_least h).choose else 0
theorem least_spec {p : Nat → Prop} (h : ∃ n, p n) : p (least p) := by
  unfold least
  rw [dif_pos h]
  exact (exists_least h).choose_spec.1
theorem least_le {p : Nat → Prop} {n : Nat} (h : p n) : least p ≤ n := by
  unfold least
  rw [dif_pos ⟨n, h⟩]
  exact (exists_least ⟨n, h⟩).choose_spec.2 n h

theorem addsF_len (L : List Ins) (tl place : Nat) (R : List Way × List Int) : ∀ (f : Nat) (todo ws : List Way) (S : List Int), addsF L tl place f todo ws S = some R → todo.length ≤ f
  | 0, todo, ws, S, h => by
    cases todo with
    | nil => simp
    | cons a l => simp [addsF] at h
  | f + 1, [], ws, S, h => by simp
  | f + 1, x :: rest, ws, S, h => by
    have k : ∀ (t' ws' : List Way) (S' : List Int), addsF L tl place f t' ws' S' = some R → rest.length ≤ t'.length → (x :: rest).length ≤ f + 1 := fun t' ws' S' h' hl => by
      have := addsF_len L tl place R f t' ws' S' h'
      simp only [List.length_cons]; omega
    unfold addsF at h
    split at h
    · exact k _ _ _ h (Nat.le_refl _)
    · split at h
      · cases h
      · split at h
        · exact k _ _ _ h (Nat.le_refl _)
        · split at h
          · exact k _ _ _ h (by simp only [List.length_cons]; omega)
          · split at h
            · exact k _ _ _ h (by simp only [List.length_cons]; omega)
            · split at h
              · exact k _ _ _ h (by simp only [List.length_cons]; omega)
              · split at h
                · refine k _ _ _ h ?_
                  split
                  · simp only [List.length_cons]; omega
                  · exact Nat.le_refl _
                · split at h
                  · refine k _ _ _ h ?_
                    split
                    · simp only [List.length_cons]; omega
                    · exact Nat.le_refl _
                  · exact k _ _ _ h (Nat.le_refl _)
/-- a list of ways in memory -/
structure ListAt (B : Nat) (w : World) (bl : Nat) (ws : List Way) (S : List Int) (lv : Value) (mb : Nat) : Prop where
  blk : w.heap[bl]? = some (.cells #[lv, .map (some mb)] 67 (0, 0))
  own : ∃ cs, w.ownsRow B 72 2 lv ws.length cs ∧ WayCs w ws cs
  seen : SeenAt w mb S
  lo : B ≤ bl
  lm : B ≤ mb
/-- only the list was written, and new memory -/
structure FrL (bl mb : Nat) (lv : Value) (w w' : World) : Prop where
  os : w'.os = w.os
  tape : w'.tape = w.tape
  output : w'.output = w.output
  size : w.heap.size ≤ w'.heap.size
  block : ∀ k, k < w.heap.size → k ≠ bl → k ≠ mb → some k ≠ lv.ownBlock → w'.heap[k]? = w.heap[k]?
  ints : IntsStay w w'
theorem FrL.refl (bl mb : Nat) (lv : Value) (w : World) : FrL bl mb lv w w := ⟨rfl, rfl, rfl, Nat.le_refl _, fun _ _ _ _ _ => rfl, IntsStay.refl w⟩
theorem FrL.grow {bl mb : Nat} {lv : Value} {w w1 w2 : World} (h : FrL bl mb lv w w1) (g : Grow w1 w2) : FrL bl mb lv w w2 :=
  ⟨(Below.os g).trans h.os, (Below.tape g).trans h.tape, (Below.output g).trans h.output, Nat.le_trans h.size g.size, fun k hk a b c => (Below.block g k (Nat.lt_of_lt_of_le hk h.size)).trans (h.block k hk a b c), h.ints.trans (IntsStay.grow g)⟩
/-- a program and a text that a walk has -/
structure ProgAt (w : World) (bw : Nat) (L : List Ins) (g o : Nat) (tx : ByteArray) (gr : Int) (a : Option Addr) (c : Nat) : Prop where
  blk : w.heap[bw]? = some (.cells #[.int .i64 gr, .slice a L.length c, .string tx] 61 (0, 0))
  rd : RdI L g o w
  ad : 0 < L.length → a = some ⟨g, o, none⟩
def wf64 (x : Int) : Prop := (Lit.int .i64 x).wf = true
/-- what holds ahead of each round of 'adds', so many rounds ahead of its end -/
structure AR (B : Nat) (L : List Ins) (tl place : Nat) (RES : List Way × List Int) (w0 : World) (bl mb : Nat) (lv0 : Value) (f : Nat) (tv : Value) (wr : World) : Prop where
  ex : ∃ (todo ws : List Way) (S : List Int) (lv : Value), addsF L tl place f todo ws S = some RES ∧ (∃ cs, wr.ownsRow w0.heap.size 72 2 tv todo.length cs ∧ WayCs wr todo.reverse cs) ∧
    ListAt B wr bl ws S lv mb ∧ (∀ g, tv.ownBlock = some g → lv.ownBlock ≠ some g) ∧ (∀ g, lv.ownBlock = some g → lv0.ownBlock = some g ∨ w0.heap.size ≤ g) ∧ (∀ y ∈ todo, wf64 y.at_ ∧ y.ps.length ≤ 100000) ∧ S.length + f ≤ 1000000 ∧ ws.length + f ≤ 1000000
  fr : FrL bl mb lv0 w0 wr
theorem own_cap {w : World} {B e s n cap : Nat} {a : Option Addr} {xs : List Value} (h : w.ownsRow B e s (.slice a n cap) n xs) : n ≤ cap := by
  obtain ⟨a', c', h1, h2⟩ := own_shape h
  injection h1 with _ _ h3
  rw [h3]; exact h2
theorem own_pop {w : World} {B n cap g : Nat} {xs ys : List Value} (h : w.ownsRow B 72 2 (.slice (some ⟨g, 0, none⟩) (n + 1) cap) (n + 1) (xs ++ ys)) (hl : xs.length = n * 2) : w.ownsRow B 72 2 (.slice (some ⟨g, 0, none⟩) n cap) n xs := by
  rcases h.2 with ⟨h1, _⟩ | ⟨g', cap', cur, h1, h2, h3, h4, h5, h6, h7⟩
  · cases h1
  · injection h1 with h1 _ hc
    injection h1 with h1
    injection h1 with h1 _ _
    subst h1 hc
    refine ⟨hl, .inr ⟨g, cap, cur, rfl, h2, h3, by omega, h5, h6, ?_⟩⟩
    have : cur.toList.take (n * 2) = (cur.toList.take ((n + 1) * 2)).take (n * 2) := by rw [List.take_take, Nat.min_eq_left (by omega)]
    rw [this, h7, List.take_left' hl]
theorem withF_len (ps : List Int) (i place : Int) : (withF ps i place).length = ps.length := by
  unfold withF; split <;> simp
/-- the state within a round -/
structure Mid (B : Nat) (w0 : World) (bl mb : Nat) (lv0 : Value) (todo ws : List Way) (S : List Int) (lv tv : Value) (W : World) : Prop where
  own : ∃ cs, W.ownsRow w0.heap.size 72 2 tv todo.length cs ∧ WayCs W todo.reverse cs
  la : ListAt B W bl ws S lv mb
  dis : ∀ g, tv.ownBlock = some g → lv.ownBlock ≠ some g
  new : ∀ g, lv.ownBlock = some g → lv0.ownBlock = some g ∨ w0.heap.size ≤ g
  fr : FrL bl mb lv0 w0 W
  old : bl < w0.heap.size ∧ mb < w0.heap.size
section
variable {B : Nat} {w0 : World} {bl mb : Nat} {lv0 : Value} {todo ws : List Way} {S : List Int} {lv tv : Value} {W W' : World}
theorem Mid.grow (h : Mid B w0 bl mb lv0 todo ws S lv tv W) (hg : Grow W W') : Mid B w0 bl mb lv0 todo ws S lv tv W' := by
  obtain ⟨cs, h1, h2⟩ := h.own
  obtain ⟨ds, h3, h4⟩ := h.la.own
  exact ⟨⟨cs, own_grow h1 hg, h2.stay (IntsStay.grow hg)⟩, ⟨(Below.block hg _ (lt_blk h.la.blk)).trans h.la.blk, ⟨ds, own_grow h3 hg, h4.stay (IntsStay.grow hg)⟩, h.la.seen.kept (Below.block hg _ h.la.seen.lt), h.la.lo, h.la.lm⟩, h.dis, h.new, h.fr.grow hg, h.old⟩
theorem Mid.ar {L : List Ins} {tl place : Nat} {RES : List Way × List Int} {f : Nat} (h : Mid B w0 bl mb lv0 todo ws S lv tv W) (ha : addsF L tl place f todo ws S = some RES) (hw : ∀ y ∈ todo, wf64 y.at_ ∧ y.ps.length ≤ 100000) (h1 : S.length + f ≤ 1000000) (h2 : ws.length + f ≤ 1000000) :
    AR B L tl place RES w0 bl mb lv0 f tv W := ⟨⟨todo, ws, S, lv, ha, h.own, h.la, h.dis, h.new, hw, h1, h2⟩, h.fr⟩
/-- rows of ways are no rows of numbers -/
theorem own72_not3 {w : World} {Bx n : Nat} {v : Value} {xs : List Value} (h : w.ownsRow Bx 72 2 v n xs) : ∀ q, v.ownBlock = some q → ∀ cur, w.heap[q]? ≠ some (.cells cur 3 (0, 0)) := fun q hq cur e => by
  rcases h.2 with ⟨h1, _⟩ | ⟨g, cap, cu, h1, _, h2, _⟩
  · rw [h1] at hq; cases hq
  · rw [h1] at hq
    have e' : g = q := by simpa [Value.ownBlock] using hq
    rw [e', e] at h2
    injection h2 with h2
    injection h2 with _ h2 _
    exact absurd h2 (by decide)
theorem own72_not67 {w : World} {Bx n : Nat} {v : Value} {xs : List Value} (h : w.ownsRow Bx 72 2 v n xs) : ∀ q, v.ownBlock = some q → ∀ cur, w.heap[q]? ≠ some (.cells cur 67 (0, 0)) := fun q hq cur e => by
  rcases h.2 with ⟨h1, _⟩ | ⟨g, cap, cu, h1, _, h2, _⟩
  · rw [h1] at hq; cases hq
  · rw [h1] at hq
    have e' : g = q := by simpa [Value.ownBlock] using hq
    rw [e', e] at h2
    injection h2 with h2
    injection h2 with _ h2 _
    exact absurd h2 (by decide)
theorem Mid.push {w9 w10 : World} {todo' : List Way} {Y : List Way} {news cs : List Value} {tv' : Value} (h : Mid B w0 bl mb lv0 todo ws S lv tv W) (hg : Grow W w9) (hc : w9.ownsRow w0.heap.size 72 2 tv todo.length cs) (hw : WayCs w9 todo.reverse cs)
    (hr : w9.grownBy w10 tv.ownBlock) (ho : w10.ownsRow w0.heap.size 72 2 tv' todo'.length (cs ++ news)) (hY : WayCs w9 Y news) (hT : todo'.reverse = todo.reverse ++ Y)
    (hat : ∀ g, tv'.ownBlock = some g → tv.ownBlock = some g ∨ W.heap.size ≤ g) : Mid B w0 bl mb lv0 todo' ws S lv tv' w10 := by
  have h9 := h.grow hg
  have hst : IntsStay w9 w10 := IntsStay.grown hr (own72_not3 hc)
  have hlow : ∀ q, tv.ownBlock = some q → w0.heap.size ≤ q := fun q hq => (hc.lt q hq).1
  obtain ⟨ds, h3, h4⟩ := h9.la.own
  have hb : ∀ q, q < w9.heap.size → (∀ t, tv.ownBlock = some t → t ≠ q) → w10.heap[q]? = w9.heap[q]? := fun q h1 h2 => hr.block q h1 (fun e => h2 q e.symm rfl)
  refine ⟨⟨cs ++ news, ho, by rw [hT]; exact (hw.append hY).stay hst⟩, ⟨?_, ⟨ds, h3.kept hr ?_, h4.stay hst⟩, ?_, h9.la.lo, h9.la.lm⟩, fun q hq e => ?_, h.new, ?_, h.old⟩
  · rw [hb bl (lt_blk h9.la.blk) (fun t ht e => by have := hlow t ht; have := h.old.1; omega)]; exact h9.la.blk
  · cases hl : lv.ownBlock with
    | none => exact .inl rfl
    | some q => exact .inr (fun e => h.dis q e.symm hl)
  · exact h9.la.seen.kept (hb mb h9.la.seen.lt (fun t ht e => by have := hlow t ht; have := h.old.2; omega))
  · rcases hat q hq with h5 | h5
    · exact h.dis q h5 e
    · obtain ⟨es, h6, _⟩ := h.la.own
      have := (h6.lt q e).2
      omega
  · refine ⟨hr.os.trans h9.fr.os, hr.tape.trans h9.fr.tape, hr.output.trans h9.fr.output, Nat.le_trans h9.fr.size hr.size, fun q h1 h2 h3 h4 => ?_, h9.fr.ints.trans hst⟩
    rw [hb q (Nat.lt_of_lt_of_le h1 h9.fr.size) (fun t ht e => by have := hlow t ht; omega)]
    exact h9.fr.block q h1 h2 h3 h4
/-- a way more in the list -/
theorem Mid.way {w9 w10 : World} {ds news : List Value} {lv' : Value} {x : Way} (h : Mid B w0 bl mb lv0 todo ws S lv tv W) (hg : Grow W w9) (hc : w9.ownsRow B 72 2 lv ws.length ds) (hw : WayCs w9 ws ds)
    (hr : w9.grownBy w10 lv.ownBlock) (ho : w10.ownsRow B 72 2 lv' (ws.length + 1) (ds ++ news)) (hY : WayCs w9 [x] news) (hlv : lv'.oneCell' = true)
    (hat : ∀ g, lv'.ownBlock = some g → lv.ownBlock = some g ∨ W.heap.size ≤ g) : Mid B w0 bl mb lv0 todo (ws ++ [x]) S lv' tv (w10.setCell ⟨bl, 0, none⟩ lv') := by
  have h9 := h.grow hg
  have hst : IntsStay w9 w10 := IntsStay.grown hr (own72_not3 hc)
  have hbl9 := h9.la.blk
  have hnb : ∀ q, lv.ownBlock = some q → q ≠ bl := fun q hq e => by
    rcases hc.2 with ⟨h1, _⟩ | ⟨g, cap, cu, h1, _, h2, _⟩
    · rw [h1] at hq; cases hq
    · rw [h1] at hq
      have e' : g = q := by simpa [Value.ownBlock] using hq
      rw [e', e, hbl9] at h2
      injection h2 with h2
      injection h2 with _ h2 _
      exact absurd h2 (by decide)
  have hnm : ∀ q, lv.ownBlock = some q → q ≠ mb := fun q hq e => by
    obtain ⟨es, ck, hm⟩ := h9.la.seen.blk
    rcases hc.2 with ⟨h1, _⟩ | ⟨g, cap, cu, h1, _, h2, _⟩
    · rw [h1] at hq; cases hq
    · rw [h1] at hq
      have e' : g = q := by simpa [Value.ownBlock] using hq
      rw [e', e, hm] at h2
      cases h2
  have hb : ∀ q, q < w9.heap.size → (∀ t, lv.ownBlock = some t → t ≠ q) → w10.heap[q]? = w9.heap[q]? := fun q h1 h2 => hr.block q h1 (fun e => h2 q e.symm rfl)
  have hbl10 := (hb bl (lt_blk hbl9) hnb).trans hbl9
  have hst2 : IntsStay w10 (w10.setCell ⟨bl, 0, none⟩ lv') := IntsStay.set (fun cur e => by
    rw [hbl10] at e
    injection e with e
    injection e with _ e _
    exact absurd e (by decide))
  have hbs : ∀ q, q ≠ bl → (w10.setCell ⟨bl, 0, none⟩ lv').heap[q]? = w10.heap[q]? := fun q hq => heap_setCell_other _ _ _ _ hq
  have keep : ∀ (Bx n : Nat) (u : Value) (xs : List Value), w10.ownsRow Bx 72 2 u n xs → (w10.setCell ⟨bl, 0, none⟩ lv').ownsRow Bx 72 2 u n xs := fun Bx n u xs hu => by
    refine hu.kept (row := some bl) ⟨rfl, rfl, rfl, by simp, fun k hk hkr => heap_setCell_other _ _ _ _ (fun e => hkr (by rw [e]))⟩ ?_
    rcases hu.2 with ⟨h1, _⟩ | ⟨g, cap, cu, h1, _, h2, _⟩
    · left; rw [h1]; rfl
    · right
      rw [h1]
      intro e
      have e' : g = bl := by simpa [Value.ownBlock] using e
      rw [e', hbl10] at h2
      injection h2 with h2
      injection h2 with _ h2 _
      exact absurd h2 (by decide)
  obtain ⟨cs, h1, h2⟩ := h9.own
  have hbm : bl ≠ mb := fun e => by
    obtain ⟨es, ck, hm⟩ := h9.la.seen.blk
    rw [← e, hbl9] at hm
    cases hm
  refine ⟨⟨cs, keep _ _ _ _ (h1.kept hr ?_), h2.stay (hst.trans hst2)⟩, ⟨?_, ⟨ds ++ news, ?_, (hw.append hY).stay (hst.trans hst2)⟩, ?_, h9.la.lo, h9.la.lm⟩, fun q hq e => ?_, fun q hq => ?_, ?_, h.old⟩
  · cases ht : tv.ownBlock with
    | none => exact .inl rfl
    | some q => exact .inr (fun e => h.dis q ht e.symm)
  · rw [Go.heap_setCell_same w10 bl 0 _ _ _ hbl10]; rfl
  · rw [List.length_append]; exact keep _ _ _ _ ho
  · exact h9.la.seen.kept ((hbs mb (fun e => hbm e.symm)).trans (hb mb h9.la.seen.lt hnm))
  · rcases hat q e with h5 | h5
    · exact h.dis q hq h5
    · obtain ⟨es, h6, _⟩ := h.own
      have := (h6.lt q hq).2
      omega
  · rcases hat q hq with h5 | h5
    · exact h.new q h5
    · exact .inr (Nat.le_trans h.fr.size h5)
  · refine ⟨hr.os.trans h9.fr.os, hr.tape.trans h9.fr.tape, hr.output.trans h9.fr.output, by simpa using Nat.le_trans h9.fr.size hr.size, fun q h1 h2 h3 h4 => ?_, (h9.fr.ints.trans hst).trans hst2⟩
    rw [hbs q h2, hb q (Nat.lt_of_lt_of_le h1 h9.fr.size) (fun t ht e => ?_)]
    · exact h9.fr.block q h1 h2 h3 h4
    · subst e
      rcases h.new t ht with h5 | h5
      · exact h4 h5.symm
      · omega
end
end Go.Proofs.Ytldcbkememonaaa
