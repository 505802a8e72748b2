/-
  What turns in memory; bytes in memory that nobody writes again. / Files in a map in memory; the steps that store and drop. / The walk of applies. / The walk of applies: removes, writes.
-/
import Derived.Test.YticpldjcmhpjoaaQa
import Derived.Test.YticpldjcmhpjoaaShelf
import Derived.Test.YticpldjcmhpjoaaApp
import Derived.Deep.RegionHeld3
namespace Go.Proofs.Yticpldjcmhpjoaa
open Go.RowKit
set_option linter.unusedVariables false
set_option linter.unusedSimpArgs false

/-- memory turned in P's blocks alone, and no block of bytes turned -/
structure Turn (P : Nat → Prop) (w w' : World) : Prop where
  os : w'.os = w.os
  tape : w'.tape = w.tape
  output : w'.output = w.output
  size : w.heap.size ≤ w'.heap.size
  block : ∀ k, k < w.heap.size → ¬ P k → w'.heap[k]? = w.heap[k]?
  bytes : ∀ g x, w.cell? ⟨g, 0, none⟩ = some (.int .u8 x) → w'.heap[g]? = w.heap[g]?
theorem lt_of_cell {w : World} {a : Addr} {v : Value} (h : w.cell? a = some v) : a.block < w.heap.size := World.block_lt_of_cell? w a h
theorem cell_of_block {w w' : World} {a : Addr} (h : w'.heap[a.block]? = w.heap[a.block]?) : w'.cell? a = w.cell? a := by
  unfold World.cell?
  rw [h]
theorem Turn.of_grow {P : Nat → Prop} {w w' : World} (h : Grow w w') : Turn P w w' :=
  ⟨Below.os h, Below.tape h, Below.output h, Below.size h, fun k hk _ => Below.block h k hk, fun g x hx => Below.block h g (lt_of_cell hx)⟩
theorem Turn.refl (P : Nat → Prop) (w : World) : Turn P w w := Turn.of_grow (Grow.refl w)
theorem Turn.trans {P Q : Nat → Prop} {a b c : World} (h : Turn P a b) (k : Turn Q b c) (hq : ∀ n, n < a.heap.size → Q n → P n) : Turn P a c :=
  ⟨k.os.trans h.os, k.tape.trans h.tape, k.output.trans h.output, Nat.le_trans h.size k.size,
   fun n hn hp => (k.block n (Nat.lt_of_lt_of_le hn h.size) (fun hh => hp (hq n hn hh))).trans (h.block n hn hp),
   fun g x hx => by
    have e := h.bytes g x hx
    exact (k.bytes g x ((cell_of_block (a := ⟨g, 0, none⟩) e).trans hx)).trans e⟩
theorem Turn.mono {P Q : Nat → Prop} {a b : World} (h : Turn P a b) (hq : ∀ n, n < a.heap.size → P n → Q n) : Turn Q a b :=
  ⟨h.os, h.tape, h.output, h.size, fun n hn hp => h.block n hn (fun hh => hp (hq n hn hh)), h.bytes⟩
theorem Turn.cell {P : Nat → Prop} {w w' : World} (h : Turn P w w') {a : Addr} {v : Value} (ha : w.cell? a = some v) (hp : ¬ P a.block) : w'.cell? a = some v :=
  (cell_of_block (h.block a.block (lt_of_cell ha) hp)).trans ha
theorem Turn.below {P : Nat → Prop} {w w' : World} {B : Nat} (h : Turn P w w') (hB : B ≤ w.heap.size) (hp : ∀ n, P n → B ≤ n) : Below B w w' :=
  ⟨h.os, h.tape, h.output, h.size, fun k hk => h.block k (by omega) (fun hh => by have := hp k hh; omega)⟩
theorem Turn.of_map {w w' : World} {mb : Nat} (h : w.mapTurned w' mb) : Turn (fun k => k = mb) w w' := by
  obtain ⟨es, clock, es', clock', hb, rfl⟩ := h
  refine ⟨rfl, rfl, rfl, by simp [ChangeMaps.setBlock], fun k hk hp => by simp [ChangeMaps.setBlock, Array.getElem?_setIfInBounds, Ne.symm hp], fun g x hx => ?_⟩
  have hne : g ≠ mb := by
    rintro rfl
    unfold World.cell? at hx
    rw [hb] at hx
    simp at hx
  simp [ChangeMaps.setBlock, Array.getElem?_setIfInBounds, hne.symm]
theorem Turn.of_grown {w w' : World} {q : Option Nat} (h : w.grownBy w' q) (hq : ∀ g, q = some g → ∀ x, w.cell? ⟨g, 0, none⟩ ≠ some (.int .u8 x)) : Turn (fun k => q = some k) w w' :=
  ⟨h.os, h.tape, h.output, h.size, fun k hk hp => h.block k hk (fun e => hp e.symm), fun g x hx => h.block g (lt_of_cell hx) (fun e => hq g e.symm x hx)⟩
theorem Turn.of_set {w : World} {a : Addr} {v u : Value} (ha : w.cell? a = some u) (h0 : ∀ x, w.cell? ⟨a.block, 0, none⟩ ≠ some (.int .u8 x)) : Turn (fun k => k = a.block) w (w.setCell a v) :=
  ⟨rfl, rfl, rfl, by simp, fun k hk hp => heap_setCell_other _ _ _ _ hp, fun g x hx => heap_setCell_other _ _ _ _ (fun e => h0 x (by rw [← e]; exact hx))⟩

/-- v is a slice of the bytes l, in a block of P -/
def BytesIn (P : Nat → Prop) (w : World) (v : Value) (l : List UInt8) : Prop :=
  (v = .slice none 0 0 ∧ l = []) ∨ ∃ g c, v = .slice (some ⟨g, 0, none⟩) l.length c ∧ (∀ i x, l[i]? = some x → w.cell? ⟨g, i, none⟩ = some (.int .u8 (x.toNat : Int))) ∧ (l ≠ [] → P g) ∧ l.length ≤ c
theorem BytesIn.turn {P Q : Nat → Prop} {w w' : World} {v : Value} {l : List UInt8} (h : BytesIn P w v l) (ht : Turn Q w w') : BytesIn P w' v l := by
  rcases h with h | ⟨g, c, h1, h2, h3⟩
  · exact .inl h
  · refine .inr ⟨g, c, h1, fun i x hx => ?_, h3⟩
    cases l with
    | nil => simp at hx
    | cons y r =>
      have h0 := h2 0 y rfl
      exact (cell_of_block (a := ⟨g, i, none⟩) (ht.bytes g _ h0)).trans (h2 i x hx)
theorem BytesIn.mono {P Q : Nat → Prop} {w : World} {v : Value} {l : List UInt8} (h : BytesIn P w v l) (hq : ∀ n, n < w.heap.size → P n → Q n) : BytesIn Q w v l := by
  rcases h with h | ⟨g, c, h1, h2, h3⟩
  · exact .inl h
  · refine .inr ⟨g, c, h1, h2, fun hl => ?_, h3.2⟩
    cases l with
    | nil => exact absurd rfl hl
    | cons y r => exact hq g (lt_of_cell (h2 0 y rfl)) (h3.1 hl)
theorem BytesIn.shape {P : Nat → Prop} {w : World} {v : Value} {l : List UInt8} (h : BytesIn P w v l) : ∃ a c, v = .slice a l.length c := by
  rcases h with ⟨rfl, rfl⟩ | ⟨g, c, h1, _⟩
  · exact ⟨_, _, rfl⟩
  · exact ⟨_, _, h1⟩
theorem BytesIn.one {P : Nat → Prop} {w : World} {v : Value} {l : List UInt8} (h : BytesIn P w v l) : v.oneCell' = true := by
  obtain ⟨a, c, rfl⟩ := h.shape; rfl
theorem BytesIn.holds {P : Nat → Prop} {w : World} {v : Value} {l : List UInt8} (h : BytesIn P w v l) : Lib.HoldsBytes w v l := by
  rcases h with ⟨rfl, rfl⟩ | ⟨g, c, h1, h2, _⟩
  · exact ⟨none, 0, rfl, fun _ => rfl, fun a h => (by cases h)⟩
  · refine ⟨some ⟨g, 0, none⟩, c, h1, (by intro h; cases h), fun a ha i x hx => ?_⟩
    injection ha with ha
    subst ha
    rw [add_plain, Nat.zero_add]
    exact h2 i x hx
/-- bytes as cells -/
def u8s (l : List UInt8) : List Value := l.map fun x => .int .u8 (x.toNat : Int)
theorem u8s_len (l : List UInt8) : (u8s l).length = l.length := by simp [u8s]
theorem u8s_one (l : List UInt8) : ∀ v ∈ u8s l, v.oneCell' = true := by
  intro v hv
  obtain ⟨x, _, rfl⟩ := List.mem_map.1 hv
  rfl
theorem u8s_get (l : List UInt8) (i : Nat) : (u8s l)[i]? = (l[i]?).map fun x => .int .u8 (x.toNat : Int) := by simp [u8s]
/-- v is a slice of the bytes l in a block of one's own -/
def OwnL (B : Nat) (w : World) (v : Value) (l : List UInt8) : Prop := w.ownsRow B 5 1 v l.length (u8s l)
theorem OwnL.bytes {B : Nat} {w : World} {v : Value} {l : List UInt8} (h : OwnL B w v l) : BytesIn (fun k => B ≤ k) w v l := by
  have hc := h
  unfold OwnL at h
  rcases h.2 with ⟨rfl, h0⟩ | ⟨g, cap, cur, rfl, hb, _, hnc, _⟩
  · exact .inl ⟨rfl, List.eq_nil_of_length_eq_zero h0⟩
  · exact .inr ⟨g, cap, rfl, fun i x hx => by have := World.ownsRow.cells (g := g) hc rfl i _ (show (u8s l)[i]? = some (.int .u8 (x.toNat : Int)) from by rw [u8s_get, hx]; rfl); rw [add_plain, Nat.zero_add] at this; exact this, fun _ => hb, hnc⟩
theorem clone_any {P : Nat → Prop} (v : Value) (l : List UInt8) (w : World) (h : BytesIn P w v l) (hl : l.length ≤ 140737488355328) :
    Calls Try.prog 34 #[v] w fun e w' => ∃ v', e = .returned v' ∧ OwnL w.heap.size w' v' l ∧ Below w.heap.size w w' := by
  rcases h with ⟨rfl, rfl⟩ | ⟨g, c, rfl, h2, _⟩
  · refine (Try.bytes_Clone_nil 0 0 w).mono ?_
    rintro e w' ⟨rfl, rfl⟩
    exact ⟨_, rfl, ⟨rfl, .inl ⟨rfl, rfl⟩⟩, Below.refl _ _⟩
  · refine (Try.bytes_Clone_at ⟨g, 0, none⟩ l.length c (l.map fun x => (x.toNat : Int)) w (by simp) hl (fun i hi => ?_)).mono ?_
    · rw [add_plain, Nat.zero_add, h2 i l[i] (List.getElem?_eq_getElem hi)]
      simp [List.getD, List.getElem?_eq_getElem hi]
    · rintro e w' ⟨v', rfl, h3, _, h5⟩
      exact ⟨v', rfl, by unfold OwnL u8s; rw [List.map_map] at h3; exact h3, h5⟩
end Go.Proofs.Yticpldjcmhpjoaa

namespace Go.Proofs.Yticpldjcmhpjoaa
open Go.RowKit
set_option linter.unusedVariables false
set_option linter.unusedSimpArgs false

theorem MapV.kept {w w' : World} {mb n : Nat} {f : ByteArray → Option Value} (h : MapV w mb n f) (hb : w'.heap[mb]? = w.heap[mb]?) : MapV w' mb n f := by
  obtain ⟨D, ⟨es, clock, h2, h3⟩, h4, h5⟩ := h
  exact ⟨D, ⟨es, clock, hb.trans h2, h3⟩, h4, h5⟩
theorem MapV.blk {w : World} {mb n : Nat} {f : ByteArray → Option Value} (h : MapV w mb n f) : ∃ es clock, w.heap[mb]? = some (.map es clock) := by
  obtain ⟨D, ⟨es, clock, h2, h3⟩, h4, h5⟩ := h
  exact ⟨es, clock, h2⟩
theorem MapV.lt {w : World} {mb n : Nat} {f : ByteArray → Option Value} (h : MapV w mb n f) : mb < w.heap.size := by
  obtain ⟨D, h1, _⟩ := h
  exact h1.lt
/-- block mb is a map: at each name it holds the bytes that g says -/
def FilesV (P : Nat → Prop) (w : World) (mb n : Nat) (g : ByteArray → Option (List UInt8)) : Prop :=
  ∃ f, MapV w mb n f ∧ ∀ s, (g s = none → f s = none) ∧ ∀ l, g s = some l → ∃ v, f s = some v ∧ BytesIn P w v l
theorem FilesV.turn {P Q : Nat → Prop} {w w' : World} {mb n : Nat} {g : ByteArray → Option (List UInt8)} (h : FilesV P w mb n g) (ht : Turn Q w w') (hq : ¬ Q mb) : FilesV P w' mb n g := by
  obtain ⟨f, h1, h2⟩ := h
  refine ⟨f, h1.kept (ht.block mb h1.lt hq), fun s => ⟨(h2 s).1, fun l hl => ?_⟩⟩
  obtain ⟨v, h3, h4⟩ := (h2 s).2 l hl
  exact ⟨v, h3, h4.turn ht⟩
theorem FilesV.mono {P Q : Nat → Prop} {w : World} {mb n : Nat} {g : ByteArray → Option (List UInt8)} (h : FilesV P w mb n g) (hq : ∀ k, k < w.heap.size → P k → Q k) : FilesV Q w mb n g := by
  obtain ⟨f, h1, h2⟩ := h
  refine ⟨f, h1, fun s => ⟨(h2 s).1, fun l hl => ?_⟩⟩
  obtain ⟨v, h3, h4⟩ := (h2 s).2 l hl
  exact ⟨v, h3, h4.mono hq⟩
theorem FilesV.lt {P : Nat → Prop} {w : World} {mb n : Nat} {g : ByteArray → Option (List UInt8)} (h : FilesV P w mb n g) : mb < w.heap.size := by
  obtain ⟨f, h1, h2⟩ := h
  exact h1.lt
theorem filesV_new (P : Nat → Prop) (w : World) : FilesV P (w.alloc (.map #[] 0)) w.heap.size 0 (fun _ => none) :=
  ⟨_, mapV_new w, fun s => ⟨fun _ => rfl, fun l hl => by cases hl⟩⟩
/-- the store of a file -/
theorem FilesV.store {P : Nat → Prop} {w : World} {mb n : Nat} {g : ByteArray → Option (List UInt8)} (h : FilesV P w mb n g) (s : ByteArray) (hs : s.size ≤ maxLen) (v : Value) (l : List UInt8) (hv : BytesIn P w v l) (hn : n < maxLen) :
    ∃ w', (Instr.mapUpdate 56 (.map (some mb)) (.string s) v).run Try.prog w = .ok () w' ∧ FilesV P w' mb (n + 1) (fun t => if t = s then some l else g t) ∧ Turn (fun k => k = mb) w w' := by
  obtain ⟨f, h1, h2⟩ := h
  obtain ⟨w', hrun, h3, h4⟩ := mapV_store h1 s hs v hn
  have ht := Turn.of_map h4
  refine ⟨w', hrun, ⟨_, h3, fun t => ?_⟩, ht⟩
  simp only
  by_cases e : t = s
  · rw [if_pos e, if_pos e]
    refine ⟨fun h => (by cases h), fun l' hl => ?_⟩
    injection hl with hl
    subst hl
    exact ⟨v, rfl, hv.turn ht⟩
  · rw [if_neg e, if_neg e]
    refine ⟨(h2 t).1, fun l' hl => ?_⟩
    obtain ⟨u, h5, h6⟩ := (h2 t).2 l' hl
    exact ⟨u, h5, h6.turn ht⟩
theorem FilesV.drop {P : Nat → Prop} {w : World} {mb n : Nat} {g : ByteArray → Option (List UInt8)} (h : FilesV P w mb n g) (s : ByteArray) (hs : s.size ≤ maxLen) (ty : TypeId) :
    ∃ w', (Builtin.delete_ #[56, 9] ty #[.map (some mb), .string s]).run Try.prog w = .ok (.tuple #[]) w' ∧ FilesV P w' mb n (fun t => if t = s then none else g t) ∧ Turn (fun k => k = mb) w w' := by
  obtain ⟨f, h1, h2⟩ := h
  obtain ⟨w', hrun, h3, h4⟩ := mapV_drop h1 s hs ty
  have ht := Turn.of_map h4
  refine ⟨w', hrun, ⟨_, h3, fun t => ?_⟩, ht⟩
  simp only
  by_cases e : t = s
  · rw [if_pos e, if_pos e]
    exact ⟨fun _ => rfl, fun l' hl => (by cases hl)⟩
  · rw [if_neg e, if_neg e]
    refine ⟨(h2 t).1, fun l' hl => ?_⟩
    obtain ⟨u, h5, h6⟩ := (h2 t).2 l' hl
    exact ⟨u, h5, h6.turn ht⟩
theorem step_store {w : World} {ops : Array Oper} {o : Oper} {a : Act} {K : Act → World → Prop} {Q : Exit → Act → World → Prop} {E : Prop} (hgd : o.guard = none) (m x v : Operand)
    (ho : o.op = Op.mapUpdate 56 m x v) {P : Nat → Prop} {mb n : Nat} {g : ByteArray → Option (List UInt8)} (hS : FilesV P w mb n g) (s : ByteArray) (u : Value) (l : List UInt8) (hu : BytesIn P w u l)
    (hm : a.eval m = .map (some mb)) (hx : a.eval x = .string s) (hv : a.eval v = u) (hs : s.size ≤ maxLen) (hn : n < maxLen)
    (h : ∀ w', Hid (FilesV P w' mb (n + 1) (fun t => if t = s then some l else g t)) → Turn (fun k => k = mb) w w' → K (a.put o.dst undef) w') : if Region.wanted o (yielded ops a.tmps) = true then Oper.wp Try.prog o a w K Q else E := by
  have hw : Region.wanted o (yielded ops a.tmps) = true := by simp [Region.wanted, hgd]
  rw [if_pos hw]
  obtain ⟨w', hrun, r1, r2⟩ := hS.store s hs u l hu hn
  unfold Oper.wp
  simp [execOp, ho, hm, hx, hv, hrun, Result.andThen]
  exact h _ (Lib.hid r1) r2
theorem step_drop {w : World} {ops : Array Oper} {o : Oper} {a : Act} {K : Act → World → Prop} {Q : Exit → Act → World → Prop} {E : Prop} (hgd : o.guard = none) (m x : Operand)
    (ho : o.op = .call { callee := .builtin .delete, args := #[m, x], argTypes := #[56, 9] }) {P : Nat → Prop} {mb n : Nat} {g : ByteArray → Option (List UInt8)} (hS : FilesV P w mb n g) (s : ByteArray)
    (hm : a.eval m = .map (some mb)) (hx : a.eval x = .string s) (hs : s.size ≤ maxLen)
    (h : ∀ w', Hid (FilesV P w' mb n (fun t => if t = s then none else g t)) → Turn (fun k => k = mb) w w' → K (a.put o.dst (.tuple #[])) w') : if Region.wanted o (yielded ops a.tmps) = true then Oper.wp Try.prog o a w K Q else E := by
  have hw : Region.wanted o (yielded ops a.tmps) = true := by simp [Region.wanted, hgd]
  rw [if_pos hw]
  obtain ⟨w', hrun, r1, r2⟩ := hS.drop s hs o.type
  unfold Oper.wp
  simp [execOp, ho, resolve, invoke, builtin, hm, hx, hrun, Result.andThen]
  exact h _ (Lib.hid r1) r2
/-- a change: 0 creates, 1 writes, 2 removes -/
structure Chg where
  kind : Nat
  name : ByteArray
  at_ : Nat
  data : List UInt8
def over (b : List UInt8) (i : Nat) (p : List UInt8) : List UInt8 := b.take i ++ p ++ b.drop (i + p.length)
theorem over_len (b : List UInt8) (i : Nat) (p : List UInt8) (h : i + p.length ≤ b.length) : (over b i p).length = b.length := by
  unfold over
  simp
  omega
/-- files behind a change -/
def doesG (g : ByteArray → Option (List UInt8)) (c : Chg) : ByteArray → Option (List UInt8) := fun t =>
  if t = c.name then (if c.kind = 0 then some c.data else if c.kind = 1 then (g c.name).map fun b => over b c.at_ c.data else none) else g t
/-- a change as a value -/
def Chg.val (c : Chg) (dv : Value) : Value := .agg #[.int .i64 (c.kind : Int), .string c.name, .int .i64 (c.at_ : Int), dv]
end Go.Proofs.Yticpldjcmhpjoaa

namespace Go.Proofs.Yticpldjcmhpjoaa
open Go.RowKit
set_option linter.unusedVariables false
set_option linter.unusedSimpArgs false

/-- what applies leaves -/
def AppP (P : Nat → Prop) (mb n : Nat) (g : ByteArray → Option (List UInt8)) (w : World) (e : Ending) (w' : World) : Prop :=
  e = .returned (.tuple #[]) ∧ Turn (fun k => k = mb) w w' ∧ FilesV (fun k => P k ∨ w.heap.size ≤ k) w' mb n g
theorem doesG0 (g : ByteArray → Option (List UInt8)) (name : ByteArray) (i : Nat) (data : List UInt8) : doesG g ⟨0, name, i, data⟩ = fun t => if t = name then some data else g t := by
  funext t
  simp [doesG]
theorem doesG1 (g : ByteArray → Option (List UInt8)) (name : ByteArray) (i : Nat) (data b : List UInt8) (hb : g name = some b) : doesG g ⟨1, name, i, data⟩ = fun t => if t = name then some (over b i data) else g t := by
  funext t
  simp [doesG, hb]
theorem doesG2 (g : ByteArray → Option (List UInt8)) (name : ByteArray) (i : Nat) (data : List UInt8) : doesG g ⟨2, name, i, data⟩ = fun t => if t = name then none else g t := by
  funext t
  simp [doesG]
set_option maxRecDepth 20000 in
set_option maxHeartbeats 1000000 in
theorem applies0 {P : Nat → Prop} (fb mb n : Nat) (g : ByteArray → Option (List UInt8)) (c : Chg) (dv : Value) (w : World) (hk : c.kind = 0) (h2 : w.cell? ⟨fb, 2, none⟩ = some (.map (some mb)))
    (hF : FilesV P w mb n g) (hn : n < maxLen) (hs : c.name.size ≤ maxLen) (hd : BytesIn P w dv c.data) (hl : c.data.length ≤ 140737488355328) :
    Calls Try.prog 45 #[.pointer (some ⟨fb, 0, none⟩), c.val dv] w (AppP P mb (n + 1) (doesG g c) w) := by
  obtain ⟨kind, name, at_, data⟩ := c
  obtain rfl : kind = 0 := hk
  unfold Chg.val
  rw [doesG0]
  simp only at hs hd hl ⊢
  obtain ⟨W1, hW1⟩ : ∃ W1, W1 = w.alloc (.cells #[.int .i64 0, .string name, .int .i64 (at_ : Int), dv] 68) := ⟨_, rfl⟩
  have hg1 : Grow w W1 := by rw [hW1]; exact (Grow.refl w).alloc _
  have hb1 := heap_alloc_new w (.cells #[.int .i64 0, .string name, .int .i64 (at_ : Int), dv] 68)
  rw [← hW1] at hb1
  have d1 : W1.cell? ⟨w.heap.size, 1, none⟩ = some (.string name) := by simp [World.cell?, hb1]
  have d3 : W1.cell? ⟨w.heap.size, 3, none⟩ = some dv := by simp [World.cell?, hb1]
  have f2 : W1.cell? ⟨fb, 2, none⟩ = some (.map (some mb)) := (Below.cell hg1 (p := ⟨fb, 2, none⟩) (lt_of_cell h2)).trans h2
  have hmf : mb ≠ fb := by
    rintro rfl
    obtain ⟨es, cl, hb⟩ := hF.choose_spec.1.blk
    simp [World.cell?, hb] at h2
  have hmw := hF.lt
  have KA := Lib.hid (show ∀ W, Grow W1 W → W.cell? ⟨w.heap.size, 1, none⟩ = some (.string name) ∧ W.cell? ⟨w.heap.size, 3, none⟩ = some dv ∧ W.cell? ⟨fb, 2, none⟩ = some (.map (some mb)) from fun W hW =>
    ⟨(Below.cell hW (p := ⟨w.heap.size, 1, none⟩) (lt_of_cell d1)).trans d1, (Below.cell hW (p := ⟨w.heap.size, 3, none⟩) (lt_of_cell d3)).trans d3, (Below.cell hW (p := ⟨fb, 2, none⟩) (lt_of_cell f2)).trans f2⟩)
  have KB := Lib.hid (show ∀ W W', Grow W1 W → Turn (fun k => k = mb) W W' → W'.cell? ⟨w.heap.size, 1, none⟩ = some (.string name) ∧ W'.cell? ⟨w.heap.size, 3, none⟩ = some dv ∧ W'.cell? ⟨fb, 2, none⟩ = some (.map (some mb)) from fun W W' hW hT =>
    ⟨hT.cell (KA.out W hW).1 (by simp; omega), hT.cell (KA.out W hW).2.1 (by simp; omega), hT.cell (KA.out W hW).2.2 (by simp; omega)⟩)
  have CL := Lib.hid (show ∀ W, Grow W1 W → Calls Try.prog 34 #[dv] W fun e w' => ∃ v', e = .returned v' ∧ Hid (BytesIn (fun k => P k ∨ w.heap.size ≤ k) w' v' data) ∧ Below W.heap.size W w' from fun W hW => by
    refine (clone_any dv data W ((hd.turn (Turn.of_grow (P := P) hg1)).turn (Turn.of_grow (P := P) hW)) hl).mono ?_
    rintro e w' ⟨v', rfl, h3, h4⟩
    exact ⟨v', rfl, Lib.hid (h3.bytes.mono (fun k _ hk => .inr (by have := Grow.size hW; have := Grow.size hg1; omega))), h4⟩)
  have FV := Lib.hid (show ∀ W, Grow W1 W → FilesV (fun k => P k ∨ w.heap.size ≤ k) W mb n g from fun W hW =>
    ((hF.turn (Turn.of_grow (P := fun _ => False) (hg1.trans hW)) (fun h => h)).mono (fun k _ hk => .inl hk)))
  have HG := Lib.hid hg1
  have HN := Lib.hid hn
  have HS := Lib.hid hs
  clear hd hF hg1 hb1 hmw hmf hs hn hl h2
  have HW := Lib.hid hW1
  clear hW1
  go_enter Try.func45, Try.ntmps45
  go_wp2
  rw [← HW.out]
  go_region_held3 (fun W => W.cell? ⟨w.heap.size, 1, none⟩ = some (.string name) ∧ W.cell? ⟨w.heap.size, 3, none⟩ = some dv ∧ W.cell? ⟨fb, 2, none⟩ = some (.map (some mb)))
    (first
      | exact KA.out _ (Grow.refl _).drew
      | exact KB.out _ _ ((Grow.refl _).drew.trans b3) t4
      | exact KA.out _ ((Grow.refl _).drew.trans b3))
    ((go_at_call 34; refine (CL.out _ (Grow.refl _).drew).mono ?_; rintro e w3 ⟨v3, rfl, hv3, b3⟩; obtain ⟨w4, r4, hF4, t4⟩ := (FV.out _ ((Grow.refl _).drew.trans b3)).store name HS.out v3 data hv3.out HN.out; have HF4 := Lib.hid hF4; clear hF4))
  all_goals
    go_wp2
    go_end0
    refine ⟨rfl, (Turn.of_grow ((HG.out.trans (Grow.refl _).drew).trans b3)).trans t4 (fun _ _ h => h), ?_⟩
    exact HF4.out
theorem step_copy_run {P : Program} {w : World} {ops : Array Oper} {o : Oper} {a : Act} {K : Act → World → Prop} {Q : Exit → Act → World → Prop} {E : Prop} (hgd : o.guard = none) (d s : Operand) (dT sT : TypeId)
    (ho : o.op = .call { callee := .builtin .copy, args := #[d, s], argTypes := #[dT, sT] }) (x y v : Value) (w' : World) (hx : a.eval d = x) (hy : a.eval s = y)
    (hrun : ∀ ty, (Builtin.copy_ #[dT, sT] ty #[x, y]).run P w = .ok v w') (h : K (a.put o.dst v) w') : if Region.wanted o (yielded ops a.tmps) = true then Oper.wp P o a w K Q else E := by
  have hw : Region.wanted o (yielded ops a.tmps) = true := by simp [Region.wanted, hgd]
  rw [if_pos hw]
  unfold Oper.wp
  simp [execOp, ho, resolve, invoke, builtin, hx, hy, hrun, Result.andThen]
  exact h
theorem run_copy_zero {P : Program} (w : World) (dT sT ty elem : TypeId) (hu : P.underlying dT = some (.slice elem)) (hs : (P.info? elem).map (·.size) = some 1) (p q : Option Addr) (dl dc sl sc : Nat) (h0 : Nat.min sl dl = 0) :
    (Builtin.copy_ #[dT, sT] ty #[.slice p dl dc, .slice q sl sc]).run P w = .ok (goInt 0) w := by
  cases hq : P.info? elem with
  | none => simp [hq] at hs
  | some i =>
    have hi : i.size = 1 := by simpa [hq] using hs
    have h0' : min sl dl = 0 := h0
    cases p <;> cases q <;> simp [Builtin.copy_, run_underlying hu, Builtin.lenOf, Builtin.firstCells, sizeOf, typeInfo, hq, hi, h0', loadCells, loadCellsFrom, storeCells]
theorem over_nil (b : List UInt8) (i : Nat) : over b i [] = b := by
  unfold over
  simp
theorem u8s_append (a b : List UInt8) : u8s (a ++ b) = u8s a ++ u8s b := by simp [u8s]
/-- the copy into a clone -/
theorem run_copyL {P : Nat → Prop} {B g c : Nat} {w : World} {b data : List UInt8} {dv : Value} (h : OwnL B w (.slice (some ⟨g, 0, none⟩) b.length c) b) (hd : BytesIn P w dv data) (i : Nat) (hi : i + data.length ≤ b.length) (dc : Nat) :
    ∃ w', (∀ ty, (Builtin.copy_ #[22, 22] ty #[.slice (if c = i then some ⟨g, 0, none⟩ else some ⟨g, i, none⟩) (b.length - i) dc, dv]).run Try.prog w = .ok (goInt data.length) w') ∧ OwnL B w' (.slice (some ⟨g, 0, none⟩) b.length c) (over b i data) ∧ Below B w w' := by
  have hz : (Try.prog.info? 5).map (·.size) = some 1 := by kernel_rfl
  rcases Nat.eq_zero_or_pos data.length with h0 | h0
  · obtain rfl := List.eq_nil_of_length_eq_zero h0
    obtain ⟨a, cd, rfl⟩ := hd.shape
    exact ⟨w, fun ty => run_copy_zero w 22 22 ty 5 Try.underlying22 hz _ _ _ _ _ _ (by simp [Nat.min_def]), by rw [over_nil]; exact h, Below.refl _ _⟩
  · rcases hd with ⟨_, rfl⟩ | ⟨g2, c2, rfl, h2, _⟩
    · simp at h0
    · have hown := h
      rcases h.2 with ⟨hv, _⟩ | ⟨g', cap, cur, hv, hB, hg, hnc, hcm, hcs, htk⟩
      · cases hv
      · injection hv with hv1 hv2 hv3
        injection hv1 with hv1
        injection hv1 with hv1 _ _
        subst hv1
        subst hv3
        simp only [Nat.mul_one] at hcs htk
        rw [if_neg (by omega)]
        have hrun := fun ty => run_copy_row (P := Try.prog) w 22 22 ty 5 g i (b.length - i) dc ⟨g2, 0, none⟩ data.length c2 cur 5 (u8s data) Try.underlying22 hz hg (by rw [u8s_len]; simp [Nat.min_def]; omega) (fun j v hj => by
          rw [u8s_get] at hj
          obtain ⟨x, hx, rfl⟩ := Option.map_eq_some_iff.1 hj
          rw [add_plain, Nat.zero_add]
          exact h2 j x hx) (by rw [u8s_len]; omega) (u8s_one _)
        rw [u8s_len] at hrun
        refine ⟨_, hrun, ?_, ⟨rfl, rfl, rfl, by simp [World.setRow], fun k hk => setRow_other w g k _ (by omega)⟩⟩
        unfold OwnL
        rw [over_len _ _ _ hi]
        refine ⟨by rw [u8s_len, over_len _ _ _ hi, Nat.mul_one], .inr ⟨g, c, _, rfl, hB, setRow_heap w g cur _ 5 _ hg, hnc, hcm, ?_, ?_⟩⟩
        · simp only [List.size_toArray, List.length_append, List.length_take, List.length_drop, u8s_len, Array.length_toList, Nat.mul_one]
          omega
        · simp only [Nat.mul_one]
          unfold over
          rw [u8s_append, u8s_append]
          obtain ⟨X, hX⟩ : ∃ X, X = cur.toList := ⟨_, rfl⟩
          have hXl : X.length = c := by rw [hX]; simpa using hcs
          rw [← hX] at htk ⊢
          have e1 : X.take i = u8s (b.take i) := by
            rw [show u8s (b.take i) = (u8s b).take i from by simp [u8s], ← htk, List.take_take, Nat.min_eq_left (by omega)]
          have e2 : (X.drop (i + data.length)).take (b.length - (i + data.length)) = u8s (b.drop (i + data.length)) := by
            rw [show u8s (b.drop (i + data.length)) = (u8s b).drop (i + data.length) from by simp [u8s], ← htk, List.drop_take]
          rw [List.take_append, List.take_of_length_le (by rw [List.length_append, List.length_take, u8s_len]; omega), List.length_append, List.length_take, u8s_len, Nat.min_eq_left (by omega), e2, e1]
end Go.Proofs.Yticpldjcmhpjoaa

namespace Go.Proofs.Yticpldjcmhpjoaa
open Go.RowKit
set_option linter.unusedVariables false
set_option linter.unusedSimpArgs false

theorem Grow.trans2 {a b c : World} (h : Grow a b) (k : Grow b c) : Grow a c := Below.trans h (Below.mono k h.size)
theorem mapV_look1 {w : World} {mb n : Nat} {f : ByteArray → Option Value} (h : MapV w mb n f) (s : ByteArray) (hs : s.size ≤ maxLen) :
    (Instr.lookup 56 (.map (some mb)) (.string s) false).run Try.prog w = .ok ((f s).getD (.slice none 0 0)) w := by
  obtain ⟨D, h1, h2, h3⟩ := h
  obtain ⟨v, ps, hrun, hv⟩ := h1.lookup keyed9 Try.underlying56 (Try.zeroValue22 w) (show rawE (.slice none 0 0) = some (.held (.slice none 0 0), []) from rfl) (WideMaps.keyOf_string_mk Try.underlying9 hs)
  obtain ⟨e1, e2⟩ := h3 s
  unfold keyL at e1 e2
  rw [e1] at hv
  rw [rawE_inv hv] at hrun
  exact hrun
theorem FilesV.look {P : Nat → Prop} {w : World} {mb n : Nat} {g : ByteArray → Option (List UInt8)} (h : FilesV P w mb n g) (s : ByteArray) (hs : s.size ≤ maxLen) (b : List UInt8) (hb : g s = some b) :
    ∃ v, (Instr.lookup 56 (.map (some mb)) (.string s) false).run Try.prog w = .ok v w ∧ BytesIn P w v b := by
  obtain ⟨f, h1, h2⟩ := h
  obtain ⟨v, h3, h4⟩ := (h2 s).2 b hb
  refine ⟨v, ?_, h4⟩
  have := mapV_look1 h1 s hs
  rw [h3] at this
  exact this
set_option maxRecDepth 20000 in
set_option maxHeartbeats 1000000 in
theorem applies2 {P : Nat → Prop} (fb mb n : Nat) (g : ByteArray → Option (List UInt8)) (c : Chg) (dv : Value) (w : World) (hk : c.kind = 2) (h2 : w.cell? ⟨fb, 2, none⟩ = some (.map (some mb)))
    (hF : FilesV P w mb n g) (hs : c.name.size ≤ maxLen) :
    Calls Try.prog 45 #[.pointer (some ⟨fb, 0, none⟩), c.val dv] w (AppP P mb n (doesG g c) w) := by
  obtain ⟨kind, name, at_, data⟩ := c
  obtain rfl : kind = 2 := hk
  unfold Chg.val
  rw [doesG2]
  simp only at hs ⊢
  obtain ⟨W1, hW1⟩ : ∃ W1, W1 = w.alloc (.cells #[.int .i64 2, .string name, .int .i64 (at_ : Int), dv] 68) := ⟨_, rfl⟩
  have hg1 : Grow w W1 := by rw [hW1]; exact (Grow.refl w).alloc _
  have hb1 := heap_alloc_new w (.cells #[.int .i64 2, .string name, .int .i64 (at_ : Int), dv] 68)
  rw [← hW1] at hb1
  have d1 : W1.cell? ⟨w.heap.size, 1, none⟩ = some (.string name) := by simp [World.cell?, hb1]
  have d3 : W1.cell? ⟨w.heap.size, 3, none⟩ = some dv := by simp [World.cell?, hb1]
  have f2 : W1.cell? ⟨fb, 2, none⟩ = some (.map (some mb)) := (Below.cell hg1 (p := ⟨fb, 2, none⟩) (lt_of_cell h2)).trans h2
  have hmf : mb ≠ fb := by
    rintro rfl
    obtain ⟨es, cl, hb⟩ := hF.choose_spec.1.blk
    simp [World.cell?, hb] at h2
  have hmw := hF.lt
  have KA := Lib.hid (show ∀ W, Grow W1 W → W.cell? ⟨w.heap.size, 1, none⟩ = some (.string name) ∧ W.cell? ⟨w.heap.size, 3, none⟩ = some dv ∧ W.cell? ⟨fb, 2, none⟩ = some (.map (some mb)) from fun W hW =>
    ⟨(Below.cell hW (p := ⟨w.heap.size, 1, none⟩) (lt_of_cell d1)).trans d1, (Below.cell hW (p := ⟨w.heap.size, 3, none⟩) (lt_of_cell d3)).trans d3, (Below.cell hW (p := ⟨fb, 2, none⟩) (lt_of_cell f2)).trans f2⟩)
  have KB := Lib.hid (show ∀ W W', Grow W1 W → Turn (fun k => k = mb) W W' → W'.cell? ⟨w.heap.size, 1, none⟩ = some (.string name) ∧ W'.cell? ⟨w.heap.size, 3, none⟩ = some dv ∧ W'.cell? ⟨fb, 2, none⟩ = some (.map (some mb)) from fun W W' hW hT =>
    ⟨hT.cell (KA.out W hW).1 (by simp; omega), hT.cell (KA.out W hW).2.1 (by simp; omega), hT.cell (KA.out W hW).2.2 (by simp; omega)⟩)
  have FV := Lib.hid (show ∀ W, Grow W1 W → FilesV (fun k => P k ∨ w.heap.size ≤ k) W mb n g from fun W hW =>
    ((hF.turn (Turn.of_grow (P := fun _ => False) (hg1.trans hW)) (fun h => h)).mono (fun k _ hk => .inl hk)))
  have HG := Lib.hid hg1
  have HS := Lib.hid hs
  clear hF hg1 hb1 hmw hmf hs h2
  have HW := Lib.hid hW1
  clear hW1
  go_enter Try.func45, Try.ntmps45
  go_wp2
  rw [← HW.out]
  go_region_held3 (fun W => W.cell? ⟨w.heap.size, 1, none⟩ = some (.string name) ∧ W.cell? ⟨w.heap.size, 3, none⟩ = some dv ∧ W.cell? ⟨fb, 2, none⟩ = some (.map (some mb)))
    (first
      | exact KA.out _ (Grow.refl _).drew
      | exact KB.out _ _ (Grow.refl _).drew t4)
    ((refine step_drop (by rfl) _ _ (by rfl) (FV.out _ (Grow.refl _).drew) name (by rfl) (by rfl) HS.out ?_; intro w4 hF4 t4))
  all_goals
    go_wp2
    go_end0
    refine ⟨rfl, (Turn.of_grow (HG.out.trans (Grow.refl _).drew)).trans t4 (fun _ _ h => h), ?_⟩
    exact hF4.out
set_option maxRecDepth 20000 in
set_option maxHeartbeats 1000000 in
theorem applies1 {P : Nat → Prop} (fb mb n : Nat) (g : ByteArray → Option (List UInt8)) (c : Chg) (dv : Value) (w : World) (hk : c.kind = 1) (b : List UInt8) (hb : g c.name = some b) (hi : c.at_ + c.data.length ≤ b.length) (h2 : w.cell? ⟨fb, 2, none⟩ = some (.map (some mb)))
    (hF : FilesV P w mb n g) (hn : n < maxLen) (hs : c.name.size ≤ maxLen) (hd : BytesIn P w dv c.data) (hl : b.length ≤ 140737488355328) :
    Calls Try.prog 45 #[.pointer (some ⟨fb, 0, none⟩), c.val dv] w (AppP P mb (n + 1) (doesG g c) w) := by
  obtain ⟨kind, name, at_, data⟩ := c
  obtain rfl : kind = 1 := hk
  unfold Chg.val
  simp only at hs hd hl hb hi ⊢
  rw [doesG1 g name at_ data b hb]
  obtain ⟨W1, hW1⟩ : ∃ W1, W1 = w.alloc (.cells #[.int .i64 1, .string name, .int .i64 (at_ : Int), dv] 68) := ⟨_, rfl⟩
  have hg1 : Grow w W1 := by rw [hW1]; exact (Grow.refl w).alloc _
  have hb1 := heap_alloc_new w (.cells #[.int .i64 1, .string name, .int .i64 (at_ : Int), dv] 68)
  rw [← hW1] at hb1
  have d1 : W1.cell? ⟨w.heap.size, 1, none⟩ = some (.string name) := by simp [World.cell?, hb1]
  have d2 : W1.cell? ⟨w.heap.size, 2, none⟩ = some (.int .i64 (at_ : Int)) := by simp [World.cell?, hb1]
  have d3 : W1.cell? ⟨w.heap.size, 3, none⟩ = some dv := by simp [World.cell?, hb1]
  have f2 : W1.cell? ⟨fb, 2, none⟩ = some (.map (some mb)) := (Below.cell hg1 (p := ⟨fb, 2, none⟩) (lt_of_cell h2)).trans h2
  have hmf : mb ≠ fb := by
    rintro rfl
    obtain ⟨es, cl, hb⟩ := hF.choose_spec.1.blk
    simp [World.cell?, hb] at h2
  have hmw := hF.lt
  have KA := Lib.hid (show ∀ W, Grow W1 W → W.cell? ⟨w.heap.size, 1, none⟩ = some (.string name) ∧ W.cell? ⟨w.heap.size, 2, none⟩ = some (.int .i64 (at_ : Int)) ∧ W.cell? ⟨w.heap.size, 3, none⟩ = some dv ∧ W.cell? ⟨fb, 2, none⟩ = some (.map (some mb)) from fun W hW =>
    ⟨(Below.cell hW (p := ⟨w.heap.size, 1, none⟩) (lt_of_cell d1)).trans d1, (Below.cell hW (p := ⟨w.heap.size, 2, none⟩) (lt_of_cell d2)).trans d2, (Below.cell hW (p := ⟨w.heap.size, 3, none⟩) (lt_of_cell d3)).trans d3, (Below.cell hW (p := ⟨fb, 2, none⟩) (lt_of_cell f2)).trans f2⟩)
  have KB := Lib.hid (show ∀ W W', Grow W1 W → Turn (fun k => k = mb) W W' → W'.cell? ⟨w.heap.size, 1, none⟩ = some (.string name) ∧ W'.cell? ⟨w.heap.size, 2, none⟩ = some (.int .i64 (at_ : Int)) ∧ W'.cell? ⟨w.heap.size, 3, none⟩ = some dv ∧ W'.cell? ⟨fb, 2, none⟩ = some (.map (some mb)) from fun W W' hW hT =>
    ⟨hT.cell (KA.out W hW).1 (by simp; omega), hT.cell (KA.out W hW).2.1 (by simp; omega), hT.cell (KA.out W hW).2.2.1 (by simp; omega), hT.cell (KA.out W hW).2.2.2 (by simp; omega)⟩)
  have FV := Lib.hid (show ∀ W, Grow W1 W → FilesV (fun k => P k ∨ w.heap.size ≤ k) W mb n g from fun W hW =>
    ((hF.turn (Turn.of_grow (P := fun _ => False) (hg1.trans hW)) (fun h => h)).mono (fun k _ hk => .inl hk)))
  have HB := Lib.hid hb
  have HI := Lib.hid hi
  obtain ⟨bv, LK, hbv⟩ := (FV.out W1.drew (Grow.refl _).drew).look name hs b hb
  have HBV := Lib.hid hbv
  have CL := Lib.hid (show Calls Try.prog 34 #[bv] W1.drew fun e w' => ∃ v', e = .returned v' ∧ Hid (OwnL W1.heap.size w' v' b) ∧ Below W1.heap.size W1.drew w' from by
    refine (clone_any bv b W1.drew hbv hl).mono ?_
    rintro e w' ⟨v', rfl, h3, h4⟩
    exact ⟨v', rfl, Lib.hid h3, h4⟩)
  have HD := Lib.hid (hd.turn (Turn.of_grow (P := P) hg1))
  have HG := Lib.hid hg1
  have HN := Lib.hid hn
  have HS := Lib.hid hs
  clear hbv hb hi hd hF hg1 hb1 hmw hmf hs hn hl h2
  have HW := Lib.hid hW1
  clear hW1
  go_enter Try.func45, Try.ntmps45
  go_wp2
  rw [← HW.out]
  go_region_held3 (fun W => W.cell? ⟨w.heap.size, 1, none⟩ = some (.string name) ∧ W.cell? ⟨w.heap.size, 2, none⟩ = some (.int .i64 (at_ : Int)) ∧ W.cell? ⟨w.heap.size, 3, none⟩ = some dv ∧ W.cell? ⟨fb, 2, none⟩ = some (.map (some mb)))
    (first
      | exact KA.out _ (Grow.refl _).drew
      | exact KA.out _ ((Grow.refl _).drew.trans b3))
    ((go_at_call 34; refine CL.out.mono ?_; rintro e w3 ⟨v3, rfl, hv3, b3⟩))
  all_goals
    have B4 := Lib.hid ((Grow.refl W1).drew.trans b3)
    have HBYL := hv3.out.bytes
    have hi9 := HI.out
    have hsh : (v3 = .slice none 0 0 ∧ b = []) ∨ ∃ g c, v3 = .slice (some ⟨g, 0, none⟩) b.length c ∧ b.length ≤ c := by
      have h9 := hv3.out
      rcases h9.2 with ⟨hv, h0⟩ | ⟨g', cap, cur, hv, _, _, hnc, _⟩
      · exact .inl ⟨hv, List.eq_nil_of_length_eq_zero h0⟩
      · exact .inr ⟨g', cap, hv, hnc⟩
    clear HBYL
    obtain ⟨e1, e2, e3, ef⟩ := KA.out _ B4.out
    rcases hsh with ⟨rfl, rfl⟩ | ⟨g3, c3, rfl, hc3⟩
    · have e0 : at_ = 0 ∧ data = [] := by
        simp at hi9
        exact ⟨hi9.1, List.eq_nil_of_length_eq_zero (by simp [hi9.2])⟩
      obtain ⟨rfl, rfl⟩ := e0
      obtain ⟨ad, cd, hdv⟩ := HD.out.shape
      subst hdv
      have HCP := Lib.hid (fun ty => run_copy_zero (P := Try.prog) w3.drew 22 22 ty 5 Try.underlying22 (by kernel_rfl) none ad 0 0 0 cd rfl)
      have H3 := Lib.hid hv3.out
      have Z0 := Lib.hid (own_grow hv3.out (Grow.refl w3).drew)
      clear hi9 hv3
      go_wp2
      go_region_held3 (fun W => W.cell? ⟨w.heap.size, 1, none⟩ = some (.string name) ∧ W.cell? ⟨w.heap.size, 2, none⟩ = some (.int .i64 ((0 : Nat) : Int)) ∧ W.cell? ⟨w.heap.size, 3, none⟩ = some (.slice ad 0 cd) ∧ W.cell? ⟨fb, 2, none⟩ = some (.map (some mb)))
        (exact KA.out _ B4.out.drew)
        ((refine step_copy_run (by rfl) _ _ _ _ (by rfl) _ _ _ w3.drew (by rfl) (by rfl) HCP.out ?_))
      have B5 := Lib.hid (B4.out.drew)
      all_goals
        obtain ⟨w6, r6, hF6, t6⟩ := (FV.out w3.drew.drew B5.out.drew).store name HS.out (.slice none 0 0) (over [] 0 []) (.inl ⟨rfl, rfl⟩) HN.out
        have HF6 := Lib.hid hF6
        obtain ⟨m1, m2, m3, mf⟩ := KA.out _ B5.out
        clear hF6
        go_wp2
        go_region_held3 (fun W => W.cell? ⟨w.heap.size, 1, none⟩ = some (.string name) ∧ W.cell? ⟨fb, 2, none⟩ = some (.map (some mb)))
          (first
            | exact ⟨(KA.out _ B5.out.drew).1, (KA.out _ B5.out.drew).2.2.2⟩
            | exact ⟨(KB.out _ _ B5.out.drew t6).1, (KB.out _ _ B5.out.drew t6).2.2.2⟩)
          (fail)
        all_goals
          go_wp2
          go_end0
          refine ⟨rfl, (Turn.of_grow (HG.out.trans B5.out.drew)).trans t6 (fun _ _ h => h), ?_⟩
          exact HF6.out
    · obtain ⟨w5, hcp, hv5, b5⟩ := run_copyL (P := P) (own_grow hv3.out (Grow.refl w3).drew) ((HD.out.turn (Turn.of_grow (P := P) B4.out)).turn (Turn.of_grow (P := P) (Grow.refl w3).drew)) at_ HI.out (c3 - at_)
      have HCP := Lib.hid hcp
      have B5 := Lib.hid (show Grow W1 w5 from Below.trans B4.out.drew b5)
      have HV5' := hv5.bytes.mono (Q := fun k => P k ∨ w.heap.size ≤ k) (fun k _ hk => .inr (by have := Grow.size HG.out; omega))
      clear hcp hv5 b5
      obtain ⟨bl, hbl⟩ : ∃ bl, bl = b.length := ⟨_, rfl⟩
      have HBL := Lib.hid hbl
      rw [← hbl] at hc3 hi9 HV5' ⊢
      have HV5 := Lib.hid HV5'
      have HCP' := HCP.out
      rw [← hbl] at HCP'
      have HCP := Lib.hid HCP'
      clear hbl HCP' hv3 HV5'
      have a1 : at_ ≤ bl := by omega
      have a2 : (at_ : Int) ≤ (bl : Int) := by omega
      go_wp2
      go_region_held3 (fun W => W.cell? ⟨w.heap.size, 1, none⟩ = some (.string name) ∧ W.cell? ⟨w.heap.size, 2, none⟩ = some (.int .i64 (at_ : Int)) ∧ W.cell? ⟨w.heap.size, 3, none⟩ = some dv ∧ W.cell? ⟨fb, 2, none⟩ = some (.map (some mb)))
        (first
          | exact KA.out _ B4.out.drew
          | exact KA.out _ B5.out)
        ((refine step_copy_run (by rfl) _ _ _ _ (by rfl) _ _ _ w5 (by rfl) (by rfl) HCP.out ?_))
      all_goals
        obtain ⟨w6, r6, hF6, t6⟩ := (FV.out w5.drew B5.out.drew).store name HS.out (.slice (some ⟨g3, 0, none⟩) bl c3) (over b at_ data) (HV5.out.turn (Turn.of_grow (P := P) (Grow.refl w5).drew)) HN.out
        have HF6 := Lib.hid hF6
        obtain ⟨m1, m2, m3, mf⟩ := KA.out _ B5.out
        clear hF6
        go_wp2
        all_goals
          try (have e9 : c3 = at_ := by assumption
               subst e9)
          go_region_held3 (fun W => W.cell? ⟨w.heap.size, 1, none⟩ = some (.string name) ∧ W.cell? ⟨fb, 2, none⟩ = some (.map (some mb)))
            (first
              | exact ⟨(KA.out _ B5.out.drew).1, (KA.out _ B5.out.drew).2.2.2⟩
              | exact ⟨(KB.out _ _ B5.out.drew t6).1, (KB.out _ _ B5.out.drew t6).2.2.2⟩)
            (fail)
          all_goals
            go_wp2
            go_end0
            refine ⟨rfl, (Turn.of_grow (HG.out.trans B5.out.drew)).trans t6 (fun _ _ h => h), ?_⟩
            exact HF6.out
end Go.Proofs.Yticpldjcmhpjoaa
