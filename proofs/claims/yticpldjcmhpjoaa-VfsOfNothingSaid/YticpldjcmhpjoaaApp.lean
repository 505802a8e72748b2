/-
  append onto an empty slice without room ('append([]T{}, x...)', 'append([]T(nil), x...)'): memory only grows.
-/
import Derived.Test.YticpldjcmhpjoaaPhi
import Derived.Deep.AppendSrc
import Derived.Laws.OwnMore
import Derived.OwnWalk

namespace Go.Proofs.Yticpldjcmhpjoaa
open Go.RowKit
set_option linter.unusedVariables false
set_option linter.unusedSimpArgs false

section
variable {P : Program} (w : World)

/-- an empty slice without room -/
def Empty0 (v : Value) : Prop := v = .slice none 0 0 ∨ ∃ g, v = .slice (some ⟨g, 0, none⟩) 0 0

theorem run_append_fresh (B : Nat) (t tx ty e : TypeId) (i : TypeInfo) (z : Value) (size bytes : Nat) (ht : P.underlying t = some (.slice e)) (hi : P.info? e = some i) (hz : i.zero = some z)
    (hsize : i.size = size) (hby : i.bytes = bytes) (hzs : z.cells.size = size)
    (v : Value) (hv : Empty0 v) (hown : w.ownsRow B e size v 0 []) (x : Value) (m : Nat) (news : List Value) (hs : Src P size tx x m news w)
    (h63 : m ≤ maxLen) (hbytes : m * bytes ≤ 140737488355328) (hB : B ≤ w.heap.size) :
    ∃ v' w', (Builtin.append_ #[t, tx] ty #[v, x]).run P w = .ok v' w' ∧ w'.ownsRow B e size v' m news ∧ Grow w w' ∧ (0 < m → ∃ c, v' = .slice (some ⟨w.heap.size, 0, none⟩) m c) ∧ (m = 0 → v' = v) := by
  subst hsize
  subst hby
  rcases Nat.eq_zero_or_pos m with h0 | h0
  · subst h0
    have hn : news = [] := List.eq_nil_of_length_eq_zero (by simpa using hs.newsLen)
    subst hn
    refine ⟨v, w, ?_, hown, Grow.refl w, fun h => absurd h (by omega), fun _ => rfl⟩
    rcases hv with rfl | ⟨g, rfl⟩
    · rcases hs.kind with ⟨e', hk⟩ | hk <;> simp [Builtin.append_, run_underlying ht, run_underlying hk, sizeOf, typeInfo, hi, hs.len, hs.cells]
    · have hr := run_append_room_src (P := P) w t tx ty e i ht hi g 0 0 0 x 0 [] hs (by omega) (fun j hj => by simp at hj) (fun j hj => by simp at hj)
      simpa [World.setCells] using hr
  · have hold : (Builtin.firstCells i.size 0 v).run P w.drew = .ok ([] : List Value).toArray w.drew := by
      rcases hv with rfl | ⟨g, rfl⟩
      · exact run_firstCells_none w.drew i.size 0 0 0
      · exact run_firstCells_some w.drew i.size 0 ⟨g, 0, none⟩ 0 0 [] (by simp) (fun j u hu => by simp at hu)
    have hge := grownCap_ge w m 0 e
    have hcm : grownCap w m 0 e ≤ maxLen := grownCap_le_maxLen w m 0 e h63
    have hsm : m ≤ 9223372036854775807 := by simp only [maxLen] at h63; omega
    have key : ∀ b, v = .slice b 0 0 → (Builtin.append_ #[t, tx] ty #[v, x]).run P w = .ok (.slice (some ⟨w.heap.size, 0, none⟩) m (grownCap w m 0 e)) (w.drew.alloc (.cells (news.toArray ++ Builtin.zeroCells z.cells (grownCap w m 0 e - m)) e)) := by
      rintro b rfl
      have hr := run_append_grow_src (P := P) w t tx ty e i z ht hi hz b 0 0 [] hold x m news hs (by omega) (by omega) (by simpa using growslice_fits (by omega) (by simpa using hbytes))
      simpa using hr
    have hrun : (Builtin.append_ #[t, tx] ty #[v, x]).run P w = .ok (.slice (some ⟨w.heap.size, 0, none⟩) m (grownCap w m 0 e)) (w.drew.alloc (.cells (news.toArray ++ Builtin.zeroCells z.cells (grownCap w m 0 e - m)) e)) := by
      rcases hv with h | ⟨g, h⟩ <;> exact key _ h
    refine ⟨_, _, hrun, ⟨hs.newsLen, .inr ⟨w.heap.size, _, _, rfl, hB, heap_alloc_new w.drew _, hge, hcm, ?_, ?_⟩⟩, ?_, fun _ => ⟨_, rfl⟩, fun h => absurd h (by omega)⟩
    · simp only [Array.size_append, List.size_toArray, size_zeroCells, hzs, hs.newsLen, ← Nat.add_mul]
      congr 1
      omega
    · simp only [Array.toList_append]
      rw [← hs.newsLen]
      exact List.take_left
    · exact (Grow.refl w).drew.alloc _

theorem wp_append_fresh {o : Oper} {a : Act} {K : Act → World → Prop} {Q : Exit → Act → World → Prop} (s y : Operand) (t tx : TypeId)
    (ho : o.op = .call { callee := .builtin .append, args := #[s, y], argTypes := #[t, tx] })
    (B : Nat) (e : TypeId) (i : TypeInfo) (z : Value) (size bytes : Nat) (ht : P.underlying t = some (.slice e)) (hi : P.info? e = some i) (hz : i.zero = some z)
    (hsize : i.size = size) (hby : i.bytes = bytes) (hzs : z.cells.size = size)
    (v : Value) (hsv : a.eval s = v) (hv : Empty0 v) (hown : w.ownsRow B e size v 0 []) (x : Value) (hx : a.eval y = x) (m : Nat) (news : List Value) (hs : Src P size tx x m news w)
    (h63 : m ≤ maxLen) (hbytes : m * bytes ≤ 140737488355328) (hB : B ≤ w.heap.size)
    (h : ∀ v' w', w'.ownsRow B e size v' m news → Grow w w' → (0 < m → ∃ c, v' = .slice (some ⟨w.heap.size, 0, none⟩) m c) → (m = 0 → v' = v) → K (a.put o.dst v') w') : o.wp P a w K Q := by
  obtain ⟨v', w', hrun, h2, h3, h4, h5⟩ := run_append_fresh (P := P) w B t tx o.type e i z size bytes ht hi hz hsize hby hzs v hv hown x m news hs h63 hbytes hB
  unfold Oper.wp execOp
  simp only [ho, resolve, invoke, builtin, Sem.run_bind, Sem.run_pure, Result.andThen_ok, List.map_toArray, List.map_cons, List.map_nil, hsv, hx, hrun]
  exact h v' w' h2 h3 h4 h5

theorem wpList_append_fresh {ops : Array Oper} {rest : List Oper} {o : Oper} {a : Act} {Q : Exit → Act → World → Prop} (hgd : o.guard = none) (s y : Operand) (t tx : TypeId)
    (ho : o.op = .call { callee := .builtin .append, args := #[s, y], argTypes := #[t, tx] })
    (B : Nat) (e : TypeId) (i : TypeInfo) (z : Value) (size bytes : Nat) (ht : P.underlying t = some (.slice e)) (hi : P.info? e = some i) (hz : i.zero = some z)
    (hsize : i.size = size) (hby : i.bytes = bytes) (hzs : z.cells.size = size)
    (v : Value) (hsv : a.eval s = v) (hv : Empty0 v) (hown : w.ownsRow B e size v 0 []) (x : Value) (hx : a.eval y = x) (m : Nat) (news : List Value) (hs : Src P size tx x m news w)
    (h63 : m ≤ maxLen) (hbytes : m * bytes ≤ 140737488355328) (hB : B ≤ w.heap.size)
    (h : ∀ v' w', w'.ownsRow B e size v' m news → Grow w w' → (0 < m → ∃ c, v' = .slice (some ⟨w.heap.size, 0, none⟩) m c) → (m = 0 → v' = v) → wpList P ops Q rest (a.put o.dst v') w') : wpList P ops Q (o :: rest) a w :=
  wpList_plain hgd fun _ hK => wp_append_fresh w s y t tx ho B e i z size bytes ht hi hz hsize hby hzs v hsv hv hown x hx m news hs h63 hbytes hB fun v' w' h2 h3 h4 h5 => hK _ _ (h v' w' h2 h3 h4 h5)
end

theorem ownsRow_empty0 (w : World) (B : Nat) (e : TypeId) (size : Nat) (hB : B ≤ w.heap.size) : (w.alloc (.cells #[] e)).ownsRow B e size (.slice (some ⟨w.heap.size, 0, none⟩) 0 0) 0 [] :=
  ⟨by simp, .inr ⟨w.heap.size, 0, #[], rfl, hB, heap_alloc_new w _, Nat.le_refl _, by simp [maxLen], by simp, by simp⟩⟩
theorem own_grow {w w' : World} {base size n : Nat} {e : TypeId} {v : Value} {xs : List Value} (h : w.ownsRow base e size v n xs) (hb : Grow w w') : w'.ownsRow base e size v n xs :=
  h.kept (row := none) ⟨Below.os hb, Below.tape hb, Below.output hb, Below.size hb, fun i hi _ => Below.block hb i hi⟩ (by cases v.ownBlock <;> simp)
end Go.Proofs.Yticpldjcmhpjoaa
