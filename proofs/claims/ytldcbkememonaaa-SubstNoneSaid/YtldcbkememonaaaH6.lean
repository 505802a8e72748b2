/-
  A program that came in, as its instructions can be read; what Find comes to, always.
-/
import Derived.Test.YtldcbkememonaaaH5
import Derived.Deep.SlicePairs
import Derived.Lib.SmallJoins
import Derived.ProofKit

namespace Go.Proofs.Ytldcbkememonaaa
open Go.RowKit Go.ChangeShapes Go.WideShapes Go.Deep Go.Joins
set_option linter.unusedVariables false
set_option linter.unusedSimpArgs false

set_option maxRecDepth 100000 in
theorem open_insts {H : Type} {enc : TypeId × Value → H} {W : World} {m : Nat} {cs : List Value} {x : DataW H × List MemPlace} (h : DataW.trod enc Try.prog W 0 (fun _ => true) true m 22 cs = some x) :
    ∃ (a : Option Addr) (L : List Ins) (c g o : Nat), cs = [.slice a L.length c] ∧ RdI L g o W ∧ (0 < L.length → a = some ⟨g, o, none⟩) ∧ ∀ i ∈ L, wf64 i.x ∧ wf64 i.y := by
  rcases DataW.trod_slice Try.underlying22 h with ⟨h0, _⟩ | ⟨a, len, cap, elems, rest, n, rfl, hcs, _, _, hl, hm, hlen, hel, _⟩
  · exact ⟨none, [], 0, 0, 0, h0, fun k i hk => by simp at hk, fun h => absurd h (by simp), fun i hi => by cases hi⟩
  · have each : ∀ i, ∃ k : Ins, i < len → W.cell? (a.add (i * 4)) = some (.int .i64 k.op) ∧ W.cell? (a.add (i * 4 + 1)) = some (.int .i64 k.x) ∧ W.cell? (a.add (i * 4 + 2)) = some (.int .i64 k.y) ∧ W.cell? (a.add (i * 4 + 3)) = some (.string k.ps) ∧ wf64 k.x ∧ wf64 k.y := by
      intro i
      by_cases hi : i < len
      · have h1 := hel i hi
        rw [List.getElem?_eq_getElem (by omega)] at h1
        obtain ⟨cs', h2, h3⟩ := Option.bind_eq_some_iff.mp h1
        obtain ⟨_, hcl, hcell⟩ := World.cells?_some h2
        rw [show Try.prog.cellsOf 26 = 4 from by kernel_rfl] at h2 hcl hcell
        obtain ⟨xs, n', rfl, hx, _, hxl, hf⟩ := DataW.trod_struct Try.underlying26 h3
        match xs, hxl, cs', hcl with
        | [y0, y1, y2, y3], _, [v0, v1, v2, v3], _ =>
          have g0 : DataW.trod enc Try.prog W 0 (fun _ => true) true n' 3 (List.take (Try.prog.cellsOf 3) (List.drop 0 [v0, v1, v2, v3])) = [y0, y1, y2, y3][0]? := hf 0 _ rfl
          have g1 : DataW.trod enc Try.prog W 0 (fun _ => true) true n' 3 (List.take (Try.prog.cellsOf 3) (List.drop 1 [v0, v1, v2, v3])) = [y0, y1, y2, y3][1]? := hf 1 _ rfl
          have g2 : DataW.trod enc Try.prog W 0 (fun _ => true) true n' 3 (List.take (Try.prog.cellsOf 3) (List.drop 2 [v0, v1, v2, v3])) = [y0, y1, y2, y3][2]? := hf 2 _ rfl
          have g3 : DataW.trod enc Try.prog W 0 (fun _ => true) true n' 9 (List.take (Try.prog.cellsOf 9) (List.drop 3 [v0, v1, v2, v3])) = [y0, y1, y2, y3][3]? := hf 3 _ rfl
          rw [show Try.prog.cellsOf 3 = 1 from by kernel_rfl] at g0 g1 g2
          rw [show Try.prog.cellsOf 9 = 1 from by kernel_rfl] at g3
          simp at g0 g1 g2 g3
          obtain ⟨o0, e0, _, w0⟩ := DataW.trod_int Try.underlying3 g0
          obtain ⟨o1, e1, _, w1⟩ := DataW.trod_int Try.underlying3 g1
          obtain ⟨o2, e2, _, w2⟩ := DataW.trod_int Try.underlying3 g2
          obtain ⟨tx, e3, _, ht⟩ := DataW.trod_string Try.underlying9 g3
          simp only [List.cons.injEq, and_true] at e0 e1 e2 e3
          subst e0 e1 e2 e3
          have c0 := hcell 0 (by omega)
          have c1 := hcell 1 (by omega)
          have c2 := hcell 2 (by omega)
          have c3 := hcell 3 (by omega)
          have add_add : ∀ (q j k : Nat), (a.add q).add j = a.add (q + j) := fun q j k => by
            unfold Addr.add
            split <;> split <;> simp_all <;> omega
          rw [add_add _ _ 0] at c0 c1 c2 c3
          exact ⟨⟨o0, o1, o2, tx⟩, fun _ => ⟨c0, c1, c2, c3, w1, w2⟩⟩
      · exact ⟨⟨0, 0, 0, ⟨#[]⟩⟩, fun h => absurd h hi⟩
    obtain ⟨K, hK⟩ := Classical.axiomOfChoice each
    have hat : ∀ k i, ((List.range len).map K)[k]? = some i → k < len ∧ i = K k := fun k i hk => by
      rw [List.getElem?_map] at hk
      by_cases h1 : k < len
      · rw [List.getElem?_range h1] at hk
        simp at hk
        exact ⟨h1, hk.symm⟩
      · rw [List.getElem?_eq_none (by simpa using h1)] at hk
        cases hk
    by_cases h0 : 0 < len
    · obtain ⟨b, o, sp⟩ := a
      have hc := (hK 0 h0).1
      have hsp : sp = none := by simpa [Addr.add] using World.cell?_spot hc
      subst hsp
      have hb : b < W.heap.size := World.block_lt_of_cell? W ⟨b, o, none⟩ (by simpa [Addr.add] using hc)
      have e : ∀ j, (⟨b, o, none⟩ : Addr).add j = ⟨b, o + j, none⟩ := fun j => by unfold Addr.add; split <;> simp_all
      refine ⟨some ⟨b, o, none⟩, (List.range len).map K, cap, b, o, by simpa using hcs, fun k i hk => ?_, fun _ => rfl, fun i hi => ?_⟩
      · obtain ⟨h1, rfl⟩ := hat k i hk
        obtain ⟨q0, q1, q2, q3, _⟩ := hK k h1
        rw [e] at q0 q1 q2 q3
        refine ⟨hb, q0, ?_, ?_, ?_⟩
        · rw [← q1, Nat.add_assoc]
        · rw [← q2, Nat.add_assoc]
        · rw [← q3, Nat.add_assoc]
      · obtain ⟨k, hk, rfl⟩ := List.mem_map.1 hi
        exact (hK k (by simpa using hk)).2.2.2.2
    · obtain rfl : len = 0 := by omega
      exact ⟨some a, [], cap, 0, 0, by simpa using hcs, fun k i hk => by simp at hk, fun h => absurd h (by simp), fun i hi => by cases hi⟩
/-- Find always comes to something, of the groups' length -/
theorem findF_total (gr : Int) (L : List Ins) (tx : ByteArray) (from_ : Int) : ∃ R, findF gr L tx from_ = some R ∧ (R.getD []).length ≤ 3000 ∧ ∀ ps, R = some ps → ps.length = 2 * gr.toNat + 2 := by
  by_cases h : from_ < 0 ∨ (tx.size : Int) < from_ ∨ gr < 0 ∨ 1024 < gr
  · refine ⟨none, by unfold findF; rw [if_pos h], by simp, fun ps h => by cases h⟩
  · unfold findF
    rw [if_neg h]
    obtain ⟨res, h1, h2⟩ := findG_total (L := L) (tx := tx) (nw := List.replicate (2 * gr.toNat + 2) (-1)) (tx.size + 1 - from_.toNat) [] [] none (AOk.nil L _) (fun ps h => by cases h)
    refine ⟨res, h1, ?_, fun ps hp => by have := h2 ps hp; simpa using this⟩
    cases res with
    | none => simp
    | some ps =>
      have := h2 ps rfl
      simp at this ⊢
      omega
theorem FV.ints {w : World} {v : Value} {R : Option (List Int)} (h : FV w v R) : IntsIn (R.getD []) v w := by
  cases R with
  | none =>
    have e : v = .slice none 0 0 := h
    subst e
    exact World.ownsRow_nil _ _ _ _
  | some ps => exact h
end Go.Proofs.Ytldcbkememonaaa
