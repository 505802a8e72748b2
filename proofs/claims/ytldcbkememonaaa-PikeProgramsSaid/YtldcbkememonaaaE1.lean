/-
  What a way is; 'adds' as a plain function; the walk of laid.with.
-/
import Derived.Test.YtldcbkememonaaaD1
import Derived.Test.YtldcbkememonaaaShelf
namespace Go.Proofs.Ytldcbkememonaaa
open Go.RowKit
set_option linter.unusedVariables false
set_option linter.unusedSimpArgs false

/-- an instruction that a walk has come to, and what was laid down by then -/
structure Way where
  ps : List Int
  at_ : Int
def withF (ps : List Int) (i place : Int) : List Int := if 0 ≤ i ∧ i < ps.length then ps.set i.toNat place else ps
/-- 'adds', so many rounds; none: more are wanted. The first of todo is the top. -/
def addsF (L : List Ins) (tl place : Nat) : Nat → List Way → List Way → List Int → Option (List Way × List Int)
  | 0, todo, ws, seen => if todo.isEmpty then some (ws, seen) else none
  | _ + 1, [], ws, seen => some (ws, seen)
  | f + 1, x :: rest, ws, seen =>
    if x.at_ < 0 ∨ (L.length : Int) ≤ x.at_ ∨ seen.contains x.at_ = true then addsF L tl place f rest ws seen
    else match L[x.at_.toNat]? with
      | none => none
      | some i =>
        if i.op = 1 ∨ i.op = 7 then addsF L tl place f rest (ws ++ [x]) (x.at_ :: seen)
        else if i.op = 2 then addsF L tl place f (⟨x.ps, i.x⟩ :: ⟨x.ps, i.y⟩ :: rest) ws (x.at_ :: seen)
        else if i.op = 3 then addsF L tl place f (⟨x.ps, i.x⟩ :: rest) ws (x.at_ :: seen)
        else if i.op = 4 then addsF L tl place f (⟨withF x.ps i.x place, x.at_ + 1⟩ :: rest) ws (x.at_ :: seen)
        else if i.op = 5 then addsF L tl place f (if place = 0 then ⟨x.ps, x.at_ + 1⟩ :: rest else rest) ws (x.at_ :: seen)
        else if i.op = 6 then addsF L tl place f (if place = tl then ⟨x.ps, x.at_ + 1⟩ :: rest else rest) ws (x.at_ :: seen)
        else addsF L tl place f rest ws (x.at_ :: seen)
/-- numbers in memory -/
def IntsIn (xs : List Int) (v : Value) (w : World) : Prop := w.ownsRow 0 3 1 v xs.length (xs.map (Value.int .i64))
theorem IntsIn.grow {xs : List Int} {v : Value} {w w' : World} (h : IntsIn xs v w) (hb : Grow w w') : IntsIn xs v w' := own_grow h hb
theorem IntsIn.shape {xs : List Int} {v : Value} {w : World} (h : IntsIn xs v w) : ∃ a c, v = .slice a xs.length c := by
  obtain ⟨a, c, h1, _⟩ := own_shape h
  exact ⟨a, c, h1⟩
theorem clone_any (xs : List Int) (v : Value) (w : World) (h : IntsIn xs v w) (hn : xs.length ≤ 100000) :
    Calls Try.prog 32 #[v] w fun e w' => ∃ v', e = .returned v' ∧ w'.ownsRow w.heap.size 3 1 v' xs.length (xs.map (Value.int .i64)) ∧ Grow w w' := by
  rcases h.2 with ⟨h1, h2⟩ | ⟨g, cap, cur, h1, _, h2, h3, _⟩
  · subst h1
    refine (Try.slices_Clone_int_nil 0 0 w).mono ?_
    rintro e w' ⟨rfl, rfl⟩
    refine ⟨_, rfl, ?_, Grow.refl _⟩
    have hx : xs = [] := by simpa using h2
    subst hx
    exact World.ownsRow_nil _ _ _ _
  · subst h1
    refine (Try.slices_Clone_int g 0 xs.length cap xs w (Nat.le_refl _) (by omega) ?_).mono ?_
    · intro j hj
      have := World.ownsRow.cellAt h j (by omega)
      rw [Nat.zero_add, this]
      simp [hj]
    · rintro e w' ⟨v', rfl, ho, _, hb⟩
      rw [List.take_length] at ho
      exact ⟨v', rfl, ho, hb⟩
theorem own_setI {w : World} {B n cap g j : Nat} {xs : List Int} (h : w.ownsRow B 3 1 (.slice (some ⟨g, 0, none⟩) n cap) n (xs.map (Value.int .i64))) (hl : xs.length = n) (hj : j < n) (x : Int) :
    (w.setCell ⟨g, j, none⟩ (.int .i64 x)).ownsRow B 3 1 (.slice (some ⟨g, 0, none⟩) n cap) n ((xs.set j x).map (Value.int .i64)) := by
  rcases h.2 with ⟨h1, _⟩ | ⟨g', cap', cur, h1, h2, h3, h4, h5, h6, h7⟩
  · cases h1
  · injection h1 with h1 _ hc
    injection h1 with h1
    injection h1 with h1 _ _
    subst h1 hc
    refine ⟨by simp [hl], .inr ⟨g, cap, cur.setIfInBounds j (.int .i64 x), rfl, h2, Go.heap_setCell_same w g j _ _ _ h3, h4, h5, by simpa using h6, ?_⟩⟩
    apply List.ext_getElem?
    intro i
    rw [List.getElem?_take, List.getElem?_map, List.getElem?_set, Array.getElem?_toList, Array.getElem?_setIfInBounds]
    have h8 : (cur.toList.take (n * 1))[i]? = (xs.map (Value.int .i64))[i]? := by rw [h7]
    rw [List.getElem?_take, Array.getElem?_toList, List.getElem?_map] at h8
    have hb2 : j < cur.size := by omega
    by_cases hi : j = i
    · subst hi
      rw [if_pos (by omega), if_pos rfl, if_pos rfl, if_pos hb2, if_pos (by omega)]
      rfl
    · rw [if_neg hi, if_neg hi]
      exact h8
set_option maxHeartbeats 1000000 in
theorem with_any (ps : List Int) (i place : Int) (v : Value) (w : World) (h : IntsIn ps v w) (hn : ps.length ≤ 100000) :
    Calls Try.prog 40 #[.agg #[v], .int .i64 i, .int .i64 place] w fun e w' => ∃ v', e = .returned (.agg #[v']) ∧ IntsIn (withF ps i place) v' w' ∧ Grow w w' := by
  obtain ⟨a, c, rfl⟩ := h.shape
  obtain ⟨n, hN⟩ : ∃ n, n = ps.length := ⟨_, rfl⟩
  have HN := Lib.hid hN
  rw [← hN] at hn ⊢
  by_cases h1 : i < 0
  · have e : withF ps i place = ps := by unfold withF; rw [if_neg (by omega)]
    rw [e]
    have H := Lib.hid h
    clear h hN
    go_enter Try.func40, Try.ntmps40
    go_wp2
    refine bodyPost_ret (v := .agg #[.slice a n c]) (by simp [results, Try.results40, go_sem]) rfl ?_
    exact ⟨_, rfl, by have := H.out; rw [← HN.out] at this; exact this.grow (((Grow.refl _).alloc _).alloc _), ((Grow.refl _).alloc _).alloc _⟩
  · by_cases h2 : (n : Int) ≤ i
    · have e : withF ps i place = ps := by unfold withF; rw [if_neg (by omega)]
      rw [e]
      have h3 : ¬ i < (n : Int) := by omega
      have H := Lib.hid h
      clear h hN
      go_enter Try.func40, Try.ntmps40
      go_wp2
      refine bodyPost_ret (v := .agg #[.slice a n c]) (by simp [results, Try.results40, go_sem]) rfl ?_
      exact ⟨_, rfl, by have := H.out; rw [← HN.out] at this; exact this.grow (((Grow.refl _).alloc _).alloc _), ((Grow.refl _).alloc _).alloc _⟩
    · have h3 : i < (n : Int) := by omega
      have h4 : 0 ≤ i := by omega
      obtain ⟨k, rfl⟩ : ∃ k : Nat, i = k := ⟨i.toNat, by omega⟩
      have e : withF ps k place = ps.set k place := by unfold withF; rw [if_pos (by omega)]; rfl
      rw [e]
      have CL := Lib.hid (clone_any ps (.slice a ps.length c) ((w.alloc (.cells #[.slice a n c] 70)).alloc (.cells #[.slice none 0 0] 70)) (h.grow (((Grow.refl _).alloc _).alloc _)) (by omega))
      rw [← hN] at CL
      have Z := Lib.hid (heap_alloc_two w (.cells #[.slice a n c] 70) (.cells #[.slice none 0 0] 70))
      clear h hN e
      go_enter Try.func40, Try.ntmps40
      go_wp2_with fail
      refine CL.out.mono ?_
      rintro e w1 ⟨v1, rfl, own, g1⟩
      obtain ⟨g, cp, rfl, hB, hg⟩ := own.form (by omega)
      have hb := (Below.block g1 _ (by simp)).trans Z.out
      have b0 := cell_blk hb 0
      have fb0 := froz_blk hb 0
      simp at b0
      have hck : ∃ u, w1.cell? ⟨g, k, none⟩ = some u := by
        rw [World.ownsRow.cellAt own k (by omega)]
        exact ⟨_, List.getElem?_eq_getElem (by rw [List.length_map, ← HN.out]; omega)⟩
      obtain ⟨u, hu⟩ := hck
      have fk : w1.frozen? ⟨g, k, none⟩ = false := by
        rcases own.2 with ⟨h1, _⟩ | ⟨g', cap', cur, h1, _, h3, _⟩
        · cases h1
        · injection h1 with h1 _ _
          injection h1 with h1
          injection h1 with h1 _ _
          subst h1
          exact froz_blk h3 _
      have hsz : w.heap.size + 2 ≤ g := by simpa using hB
      have hne : g ≠ w.heap.size + 1 := by omega
      have OW := Lib.hid (own_setI (j := k) own HN.out.symm (by omega) place)
      have G1 := Lib.hid ((((Grow.refl w).alloc _).alloc _).trans g1)
      have zb : w.heap.size + 1 < w1.heap.size := lt_blk hb
      clear own g1 hb
      go_wp2
      refine bodyPost_ret (v := .agg #[.slice (some ⟨g, 0, none⟩) n cp]) (by simp [results, Try.results40, go_sem, b0, zb, hne, Ne.symm hne]) rfl ?_
      refine ⟨_, rfl, ?_, (G1.out.setCell (by simp only; omega) _).setCell (by simp only; omega) _⟩
      have := own_set (j := 0) OW.out (show w.heap.size + 1 < ((w.alloc (.cells #[.slice a n c] 70)).alloc (.cells #[.slice none 0 0] 70)).heap.size by simp) (.slice (some ⟨g, 0, none⟩) n cp)
      unfold IntsIn
      rw [List.length_set, ← HN.out]
      exact Joins.ownsRow_le this (Nat.zero_le _)
end Go.Proofs.Ytldcbkememonaaa
