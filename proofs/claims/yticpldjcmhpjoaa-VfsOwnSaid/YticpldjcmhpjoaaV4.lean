/-
  A map from names to slices, as raw values.
-/
import Derived.Test.YticpldjcmhpjoaaV3
import Derived.Maps.OwnSet
import Derived.StringKeys
namespace Go.Proofs.Yticpldjcmhpjoaa
open Go.RowKit Go.ChangeMaps
set_option linter.unusedVariables false
set_option linter.unusedSimpArgs false

def rawE (v : Value) : Option (DataW Value × List MemPlace) := some (.held v, [])
theorem rawE_inv {v u : Value} {ps : List MemPlace} (h : rawE v = some (.held u, ps)) : v = u := by
  unfold rawE at h
  injection h with h
  injection h with h _
  injection h
def keyL (s : ByteArray) : Lit := .string s.data.toList
theorem keyL_ok (s : ByteArray) : WideAt.IsKeyLit (keyL s) := by first | trivial | simp [WideAt.IsKeyLit, keyL]
theorem keyL_inj {s t : ByteArray} (h : keyL s = keyL t) : s = t := by
  unfold keyL at h
  injection h with h
  apply ByteArray.ext
  exact Array.toList_inj.1 h
theorem keyed9 : Maps.Keyed Try.prog 9 := Maps.string_keyed Try.underlying9
/-- block mb is a map of at most n entries; at each name it holds what f says -/
def MapV (w : World) (mb n : Nat) (f : ByteArray → Option Value) : Prop :=
  ∃ D : DataW Value, w.ownsMap Try.prog 9 rawE mb n D ∧ Maps.Tidy D ∧ ∀ s, D.atKey (keyL s) (.held (.slice none 0 0)) = .held ((f s).getD (.slice none 0 0)) ∧ Maps.has D (keyL s) = (f s).isSome
theorem mapV_new (w : World) : MapV (w.alloc (.map #[] 0)) w.heap.size 0 (fun _ => none) := ⟨.map [], World.ownsMap_made w _ _ _, Maps.tidy_empty, fun s => ⟨rfl, rfl⟩⟩
theorem mapV_look {w : World} {mb n : Nat} {f : ByteArray → Option Value} (h : MapV w mb n f) (s : ByteArray) (hs : s.size ≤ maxLen) :
    (Instr.lookup 56 (.map (some mb)) (.string s) true).run Try.prog w = .ok (.tuple #[(f s).getD (.slice none 0 0), .bool (f s).isSome]) w := by
  obtain ⟨D, h1, h2, h3⟩ := h
  obtain ⟨v, ps, hrun, hv⟩ := h1.look_ok keyed9 Try.underlying56 (Try.zeroValue22 w) (show rawE (.slice none 0 0) = some (.held (.slice none 0 0), []) from rfl) (WideMaps.keyOf_string_mk Try.underlying9 hs)
  obtain ⟨e1, e2⟩ := h3 s
  unfold keyL at e1 e2
  rw [e1] at hv
  rw [e2, rawE_inv hv] at hrun
  exact hrun
theorem mapV_store {w : World} {mb n : Nat} {f : ByteArray → Option Value} (h : MapV w mb n f) (s : ByteArray) (hs : s.size ≤ maxLen) (u : Value) (hn : n < maxLen) :
    ∃ w', (Instr.mapUpdate 56 (.map (some mb)) (.string s) u).run Try.prog w = .ok () w' ∧ MapV w' mb (n + 1) (fun t => if t = s then some u else f t) ∧ w.mapTurned w' mb := by
  obtain ⟨D, h1, h2, h3⟩ := h
  obtain ⟨w', hrun, h4, h5⟩ := h1.store keyed9 Try.underlying56 hn (WideMaps.keyOf_string_mk Try.underlying9 hs) (show rawE u = some (.held u, []) from rfl)
  refine ⟨w', hrun, ⟨_, h4, h2.put (keyL_ok s) _, fun t => ?_⟩, h5⟩
  simp only
  by_cases e : t = s
  · subst e
    rw [if_pos rfl]
    exact ⟨Maps.atKey_put_same h2.isMap (keyL_ok t) _ _, Maps.has_put_same h2.isMap (keyL_ok t) _⟩
  · rw [if_neg e]
    have hne : keyL t ≠ keyL s := fun h => e (keyL_inj h)
    exact ⟨(Maps.atKey_put_other hne _ _).trans (h3 t).1, (Maps.has_put_other hne _).trans (h3 t).2⟩
theorem mapV_drop {w : World} {mb n : Nat} {f : ByteArray → Option Value} (h : MapV w mb n f) (s : ByteArray) (hs : s.size ≤ maxLen) (ty : TypeId) :
    ∃ w', (Builtin.delete_ #[56, 9] ty #[.map (some mb), .string s]).run Try.prog w = .ok (.tuple #[]) w' ∧ MapV w' mb n (fun t => if t = s then none else f t) ∧ w.mapTurned w' mb := by
  obtain ⟨D, h1, h2, h3⟩ := h
  obtain ⟨w', hrun, h4, h5⟩ := h1.drop keyed9 Try.underlying56 (WideMaps.keyOf_string_mk Try.underlying9 hs) ty
  refine ⟨w', hrun, ⟨_, h4, h2.del _, fun t => ?_⟩, h5⟩
  simp only
  by_cases e : t = s
  · subst e
    rw [if_pos rfl]
    exact ⟨Maps.atKey_del_same _, Maps.has_del_same⟩
  · rw [if_neg e]
    have hne : keyL t ≠ keyL s := fun h => e (keyL_inj h)
    exact ⟨(Maps.atKey_del_other hne _).trans (h3 t).1, (Maps.has_del_other hne).trans (h3 t).2⟩
end Go.Proofs.Yticpldjcmhpjoaa
