/-
  Files in a map in memory; the steps that store and drop.
-/
import Derived.Test.YticpldjcmhpjoaaV8
namespace Go.Proofs.Yticpldjcmhpjoaa
open Go.RowKit
set_option linter.unusedVariables false
set_option linter.unusedSimpArgs false

theorem MapV.kept {w w' : World} {mb n : Nat} {f : ByteArray → Option Value} (h : MapV w mb n f) (hb : w'.heap[mb]? = w.heap[mb]?) : MapV w' mb n f := by
  obtain ⟨D, ⟨es, clock, h2, h3⟩, h4, h5⟩ := h
  exact ⟨D, ⟨es, clock, hb.trans h2, h3⟩, h4, h5⟩
theorem MapV.blk {w : World} {mb n : Nat} {f : ByteArray → Option Value} (h : MapV w mb n f) : ∃ es clock, w.heap[mb]? = some (.map es clock) := by
  obtain ⟨D, ⟨es, clock, h2, h3⟩, h4, h5⟩ := h
  exact ⟨es, clock, h2⟩
theorem MapV.lt {w : World} {mb n : Nat} {f : ByteArray → Option Value} (h : MapV w mb n f) : mb < w.heap.size := by
  obtain ⟨D, h1, _⟩ := h
  exact h1.lt
/-- block mb is a map: at each name it holds the bytes that g says -/
def FilesV (P : Nat → Prop) (w : World) (mb n : Nat) (g : ByteArray → Option (List UInt8)) : Prop :=
  ∃ f, MapV w mb n f ∧ ∀ s, (g s = none → f s = none) ∧ ∀ l, g s = some l → ∃ v, f s = some v ∧ BytesIn P w v l
theorem FilesV.turn {P Q : Nat → Prop} {w w' : World} {mb n : Nat} {g : ByteArray → Option (List UInt8)} (h : FilesV P w mb n g) (ht : Turn Q w w') (hq : ¬ Q mb) : FilesV P w' mb n g := by
  obtain ⟨f, h1, h2⟩ := h
  refine ⟨f, h1.kept (ht.block mb h1.lt hq), fun s => ⟨(h2 s).1, fun l hl => ?_⟩⟩
  obtain ⟨v, h3, h4⟩ := (h2 s).2 l hl
  exact ⟨v, h3, h4.turn ht⟩
theorem FilesV.mono {P Q : Nat → Prop} {w : World} {mb n : Nat} {g : ByteArray → Option (List UInt8)} (h : FilesV P w mb n g) (hq : ∀ k, k < w.heap.size → P k → Q k) : FilesV Q w mb n g := by
  obtain ⟨f, h1, h2⟩ := h
  refine ⟨f, h1, fun s => ⟨(h2 s).1, fun l hl => ?_⟩⟩
  obtain ⟨v, h3, h4⟩ := (h2 s).2 l hl
  exact ⟨v, h3, h4.mono hq⟩
theorem FilesV.lt {P : Nat → Prop} {w : World} {mb n : Nat} {g : ByteArray → Option (List UInt8)} (h : FilesV P w mb n g) : mb < w.heap.size := by
  obtain ⟨f, h1, h2⟩ := h
  exact h1.lt
theorem filesV_new (P : Nat → Prop) (w : World) : FilesV P (w.alloc (.map #[] 0)) w.heap.size 0 (fun _ => none) :=
  ⟨_, mapV_new w, fun s => ⟨fun _ => rfl, fun l hl => by cases hl⟩⟩
/-- the store of a file -/
theorem FilesV.store {P : Nat → Prop} {w : World} {mb n : Nat} {g : ByteArray → Option (List UInt8)} (h : FilesV P w mb n g) (s : ByteArray) (hs : s.size ≤ maxLen) (v : Value) (l : List UInt8) (hv : BytesIn P w v l) (hn : n < maxLen) :
    ∃ w', (Instr.mapUpdate 56 (.map (some mb)) (.string s) v).run Try.prog w = .ok () w' ∧ FilesV P w' mb (n + 1) (fun t => if t = s then some l else g t) ∧ Turn (fun k => k = mb) w w' := by
  obtain ⟨f, h1, h2⟩ := h
  obtain ⟨w', hrun, h3, h4⟩ := mapV_store h1 s hs v hn
  have ht := Turn.of_map h4
  refine ⟨w', hrun, ⟨_, h3, fun t => ?_⟩, ht⟩
  simp only
  by_cases e : t = s
  · rw [if_pos e, if_pos e]
    refine ⟨fun h => (nomatch h), fun l' hl => ?_⟩
    injection hl with hl
    subst hl
    exact ⟨v, rfl, hv.turn ht⟩
  · rw [if_neg e, if_neg e]
    refine ⟨(h2 t).1, fun l' hl => ?_⟩
    obtain ⟨u, h5, h6⟩ := (h2 t).2 l' hl
    exact ⟨u, h5, h6.turn ht⟩
theorem FilesV.drop {P : Nat → Prop} {w : World} {mb n : Nat} {g : ByteArray → Option (List UInt8)} (h : FilesV P w mb n g) (s : ByteArray) (hs : s.size ≤ maxLen) (ty : TypeId) :
    ∃ w', (Builtin.delete_ #[56, 9] ty #[.map (some mb), .string s]).run Try.prog w = .ok (.tuple #[]) w' ∧ FilesV P w' mb n (fun t => if t = s then none else g t) ∧ Turn (fun k => k = mb) w w' := by
  obtain ⟨f, h1, h2⟩ := h
  obtain ⟨w', hrun, h3, h4⟩ := mapV_drop h1 s hs ty
  have ht := Turn.of_map h4
  refine ⟨w', hrun, ⟨_, h3, fun t => ?_⟩, ht⟩
  simp only
  by_cases e : t = s
  · rw [if_pos e, if_pos e]
    exact ⟨fun _ => rfl, fun l' hl => nomatch hl⟩
  · rw [if_neg e, if_neg e]
    refine ⟨(h2 t).1, fun l' hl => ?_⟩
    obtain ⟨u, h5, h6⟩ := (h2 t).2 l' hl
    exact ⟨u, h5, h6.turn ht⟩
theorem step_store {w : World} {ops : Array Oper} {o : Oper} {a : Act} {K : Act → World → Prop} {Q : Exit → Act → World → Prop} {E : Prop} (hgd : o.guard = none) (m x v : Operand)
    (ho : o.op = Op.mapUpdate 56 m x v) {P : Nat → Prop} {mb n : Nat} {g : ByteArray → Option (List UInt8)} (hS : FilesV P w mb n g) (s : ByteArray) (u : Value) (l : List UInt8) (hu : BytesIn P w u l)
    (hm : a.eval m = .map (some mb)) (hx : a.eval x = .string s) (hv : a.eval v = u) (hs : s.size ≤ maxLen) (hn : n < maxLen)
    (h : ∀ w', Hid (FilesV P w' mb (n + 1) (fun t => if t = s then some l else g t)) → Turn (fun k => k = mb) w w' → K (a.put o.dst undef) w') : if Region.wanted o (yielded ops a.tmps) = true then Oper.wp Try.prog o a w K Q else E := by
  have hw : Region.wanted o (yielded ops a.tmps) = true := by simp [Region.wanted, hgd]
  rw [if_pos hw]
  obtain ⟨w', hrun, r1, r2⟩ := hS.store s hs u l hu hn
  unfold Oper.wp
  simp [execOp, ho, hm, hx, hv, hrun, Result.andThen]
  exact h _ (Lib.hid r1) r2
theorem step_drop {w : World} {ops : Array Oper} {o : Oper} {a : Act} {K : Act → World → Prop} {Q : Exit → Act → World → Prop} {E : Prop} (hgd : o.guard = none) (m x : Operand)
    (ho : o.op = .call { callee := .builtin .delete, args := #[m, x], argTypes := #[56, 9] }) {P : Nat → Prop} {mb n : Nat} {g : ByteArray → Option (List UInt8)} (hS : FilesV P w mb n g) (s : ByteArray)
    (hm : a.eval m = .map (some mb)) (hx : a.eval x = .string s) (hs : s.size ≤ maxLen)
    (h : ∀ w', Hid (FilesV P w' mb n (fun t => if t = s then none else g t)) → Turn (fun k => k = mb) w w' → K (a.put o.dst (.tuple #[])) w') : if Region.wanted o (yielded ops a.tmps) = true then Oper.wp Try.prog o a w K Q else E := by
  have hw : Region.wanted o (yielded ops a.tmps) = true := by simp [Region.wanted, hgd]
  rw [if_pos hw]
  obtain ⟨w', hrun, r1, r2⟩ := hS.drop s hs o.type
  unfold Oper.wp
  simp [execOp, ho, resolve, invoke, builtin, hm, hx, hrun, Result.andThen]
  exact h _ (Lib.hid r1) r2
/-- a change: 0 creates, 1 writes, 2 removes -/
structure Chg where
  kind : Nat
  name : ByteArray
  at_ : Nat
  data : List UInt8
def over (b : List UInt8) (i : Nat) (p : List UInt8) : List UInt8 := b.take i ++ p ++ b.drop (i + p.length)
theorem over_len (b : List UInt8) (i : Nat) (p : List UInt8) (h : i + p.length ≤ b.length) : (over b i p).length = b.length := by
  unfold over
  simp
  omega
/-- files behind a change -/
def doesG (g : ByteArray → Option (List UInt8)) (c : Chg) : ByteArray → Option (List UInt8) := fun t =>
  if t = c.name then (if c.kind = 0 then some c.data else if c.kind = 1 then (g c.name).map fun b => over b c.at_ c.data else none) else g t
/-- a change as a value -/
def Chg.val (c : Chg) (dv : Value) : Value := .agg #[.int .i64 (c.kind : Int), .string c.name, .int .i64 (c.at_ : Int), dv]
end Go.Proofs.Yticpldjcmhpjoaa
