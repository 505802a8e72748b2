/-
  Acts that came in, as the walks want them.
-/
import Derived.Test.YticpldjcmhpjoaaY6
import Derived.Test.YticpldjcmhpjoaaV31
import Derived.Deep.SlicePairs
import Derived.Lib.SmallJoins
import Derived.ProofKit

namespace Go.Proofs.Yticpldjcmhpjoaa
open Go.RowKit Go.ChangeShapes Go.WideShapes Go.Deep Go.Joins
set_option linter.unusedVariables false
set_option linter.unusedSimpArgs false

theorem wf_i64 {n : Int} (h : (Lit.int .i64 n).wf = true) : -9223372036854775808 ≤ n ∧ n ≤ 9223372036854775807 := by
  simp [Lit.wf, IntKind.min, IntKind.max, IntKind.signed, IntKind.bits] at h
  omega
theorem open_bytes {H : Type} {enc : TypeId × Value → H} {W : World} {m : Nat} {cs : List Value} {x : DataW H × List MemPlace} (h : DataW.trod enc Try.prog W 0 (fun _ => true) true m 22 cs = some x) :
    ∃ v l, cs = [v] ∧ HoldsAt W v l ∧ l.length ≤ maxLen := by
  rcases open_ints Try.underlying22 Try.underlying5 (by kernel_rfl) h with ⟨hcs, _⟩ | ⟨x, l, c, zs, hcs, _, hl, hm, hz, _, hcell, hwz⟩
  · refine ⟨_, [], hcs, ⟨none, 0, 0, 0, rfl, Nat.le_refl _, fun h => absurd h (by simp), fun i x hx => by simp at hx⟩, by simp⟩
  · obtain ⟨ls, hh⟩ := IsRow.holds (show IsRow .u8 W (some x) l c zs from .inr ⟨_, rfl, hl, hm, by simpa using hz, hcell, hwz⟩)
    refine ⟨_, ls, hcs, hh, ?_⟩
    obtain ⟨p, c', b, o, e, _⟩ := hh
    injection e with e1 e2 e3
    rw [← e2]
    omega
theorem open_parts {H : Type} {enc : TypeId × Value → H} {W : World} {m : Nat} {cs : List Value} {x : DataW H × List MemPlace} (h : DataW.trod enc Try.prog W 0 (fun _ => true) true m 41 cs = some x) :
    ∃ v ls, cs = [v] ∧ PartsIn W v ls ∧ ls.length ≤ maxLen ∧ ∀ l ∈ ls, l.length ≤ maxLen := by
  rcases DataW.trod_slice Try.underlying41 h with ⟨h0, _⟩ | ⟨a, len, cap, elems, rest, n, rfl, hcs, _, _, hl, hm, hlen, hel, _⟩
  · exact ⟨_, [], h0, ⟨none, 0, rfl, fun h => absurd h (by simp)⟩, by simp, fun l hl => by cases hl⟩
  · have each : ∀ i : Fin len, ∃ v l, W.cell? (a.add i) = some v ∧ HoldsAt W v l ∧ l.length ≤ maxLen := by
      intro ⟨i, hi⟩
      have h1 := hel i hi
      rw [List.getElem?_eq_getElem (by omega)] at h1
      obtain ⟨cs', h2, h3⟩ := Option.bind_eq_some_iff.mp h1
      obtain ⟨_, hcl, hcell⟩ := World.cells?_some h2
      rw [show Try.prog.cellsOf 22 = 1 from by kernel_rfl] at h2 hcl hcell
      obtain ⟨v, l, rfl, hh, hll⟩ := open_bytes h3
      have c0 := hcell 0 (by omega)
      rw [add_add] at c0
      exact ⟨v, l, by simpa using c0, hh, hll⟩
    obtain ⟨V, hV⟩ := Classical.axiomOfChoice each
    obtain ⟨L, hL⟩ := Classical.axiomOfChoice hV
    have hlenL : (List.ofFn L).length = len := by simp
    refine ⟨_, List.ofFn L, hcs, ⟨some a, cap, by rw [hlenL], fun h0 => ?_⟩, by rw [hlenL]; omega, fun l hl => ?_⟩
    · rw [hlenL] at h0 ⊢
      obtain ⟨b, o, sp⟩ := a
      have hc := (hL ⟨0, h0⟩).1
      have hsp : sp = none := by simpa [Addr.add] using World.cell?_spot hc
      subst hsp
      refine ⟨hl, b, o, List.ofFn V, rfl, by simp, fun i v hv => ?_, fun i v l hv hl' => ?_⟩
      · obtain ⟨hi, rfl⟩ := List.getElem?_eq_some_iff.1 hv
        simp only [List.getElem_ofFn]
        exact (hL ⟨i, by simpa using hi⟩).1
      · obtain ⟨hi, rfl⟩ := List.getElem?_eq_some_iff.1 hv
        obtain ⟨hi', rfl⟩ := List.getElem?_eq_some_iff.1 hl'
        simp only [List.getElem_ofFn]
        exact (hL ⟨i, by simpa using hi⟩).2.1.holds
    · obtain ⟨i, rfl⟩ := (List.mem_ofFn).1 hl
      exact (hL i).2.2
set_option maxRecDepth 100000 in
theorem open_acts {H : Type} {enc : TypeId × Value → H} {W : World} {m : Nat} {cs : List Value} {x : DataW H × List MemPlace} (h : DataW.trod enc Try.prog W 0 (fun _ => true) true m 35 cs = some x) :
    ∃ a l c A V, cs = [.slice a l c] ∧ ActsAt W a l A V ∧ l ≤ maxLen := by
  rcases DataW.trod_slice Try.underlying35 h with ⟨h0, _⟩ | ⟨a, len, cap, elems, rest, n, rfl, hcs, _, _, hl, hm, hlen, hel, _⟩
  · exact ⟨none, 0, 0, fun _ => ⟨0, 0, 0, ⟨#[]⟩, []⟩, fun _ => .slice none 0 0, h0, fun h => absurd h (by omega), Nat.zero_le _⟩
  · have each : ∀ i, ∃ (y : Actn) (v : Value), i < len → W.cell? (a.add (i * 5)) = some (.int .i64 y.kind) ∧ W.cell? (a.add (i * 5 + 1)) = some (.int .i64 y.at_) ∧ W.cell? (a.add (i * 5 + 2)) = some (.int .i64 y.n) ∧ W.cell? (a.add (i * 5 + 3)) = some (.string y.name) ∧ W.cell? (a.add (i * 5 + 4)) = some v ∧
        PartsIn W v y.b ∧ y.name.size ≤ maxLen ∧ (-9223372036854775808 ≤ y.at_ ∧ y.at_ ≤ 9223372036854775807) ∧ (-9223372036854775808 ≤ y.n ∧ y.n ≤ 9223372036854775807) ∧ y.b.length ≤ maxLen ∧ ∀ l ∈ y.b, l.length ≤ maxLen := by
      intro i
      by_cases hi : i < len
      · have h1 := hel i hi
        rw [List.getElem?_eq_getElem (by omega)] at h1
        obtain ⟨cs', h2, h3⟩ := Option.bind_eq_some_iff.mp h1
        obtain ⟨_, hcl, hcell⟩ := World.cells?_some h2
        rw [show Try.prog.cellsOf 43 = 5 from by kernel_rfl] at h2 hcl hcell
        obtain ⟨xs, n', rfl, hx, _, hxl, hf⟩ := DataW.trod_struct Try.underlying43 h3
        match xs, hxl, cs', hcl with
        | [y0, y1, y2, y3, y4], _, [v0, v1, v2, v3, v4], _ =>
          have g0 : DataW.trod enc Try.prog W 0 (fun _ => true) true n' 3 (List.take (Try.prog.cellsOf 3) (List.drop 0 [v0, v1, v2, v3, v4])) = [y0, y1, y2, y3, y4][0]? := hf 0 _ rfl
          have g1 : DataW.trod enc Try.prog W 0 (fun _ => true) true n' 3 (List.take (Try.prog.cellsOf 3) (List.drop 1 [v0, v1, v2, v3, v4])) = [y0, y1, y2, y3, y4][1]? := hf 1 _ rfl
          have g2 : DataW.trod enc Try.prog W 0 (fun _ => true) true n' 3 (List.take (Try.prog.cellsOf 3) (List.drop 2 [v0, v1, v2, v3, v4])) = [y0, y1, y2, y3, y4][2]? := hf 2 _ rfl
          have g3 : DataW.trod enc Try.prog W 0 (fun _ => true) true n' 9 (List.take (Try.prog.cellsOf 9) (List.drop 3 [v0, v1, v2, v3, v4])) = [y0, y1, y2, y3, y4][3]? := hf 3 _ rfl
          have g4 : DataW.trod enc Try.prog W 0 (fun _ => true) true n' 41 (List.take (Try.prog.cellsOf 41) (List.drop 4 [v0, v1, v2, v3, v4])) = [y0, y1, y2, y3, y4][4]? := hf 4 _ rfl
          rw [show Try.prog.cellsOf 3 = 1 from by kernel_rfl] at g0 g1 g2
          rw [show Try.prog.cellsOf 9 = 1 from by kernel_rfl] at g3
          rw [show Try.prog.cellsOf 41 = 1 from by kernel_rfl] at g4
          simp at g0 g1 g2 g3 g4
          obtain ⟨kd, e0, _, _⟩ := DataW.trod_int Try.underlying3 g0
          obtain ⟨at_, e1, _, w1⟩ := DataW.trod_int Try.underlying3 g1
          obtain ⟨nn, e2, _, w2⟩ := DataW.trod_int Try.underlying3 g2
          obtain ⟨nm, e3, _, w3⟩ := DataW.trod_string Try.underlying9 g3
          obtain ⟨vb, ls, e4, hp, hpl, hps⟩ := open_parts g4
          simp only [List.cons.injEq, and_true] at e0 e1 e2 e3 e4
          subst e0 e1 e2 e3 e4
          have c0 := hcell 0 (by omega)
          have c1 := hcell 1 (by omega)
          have c2 := hcell 2 (by omega)
          have c3 := hcell 3 (by omega)
          have c4 := hcell 4 (by omega)
          rw [add_add] at c0 c1 c2 c3 c4
          exact ⟨⟨kd, at_, nn, nm, ls⟩, v4, fun _ => ⟨c0, c1, c2, c3, c4, hp, w3, wf_i64 w1, wf_i64 w2, hpl, hps⟩⟩
      · exact ⟨⟨0, 0, 0, ⟨#[]⟩, []⟩, .slice none 0 0, fun h => absurd h hi⟩
    obtain ⟨A, hA⟩ := Classical.axiomOfChoice each
    obtain ⟨V, hV⟩ := Classical.axiomOfChoice hA
    refine ⟨some a, len, cap, A, V, hcs, fun h0 => ?_, by omega⟩
    obtain ⟨b, o, sp⟩ := a
    have hc := (hV 0 h0).1
    have hsp : sp = none := by simpa [Addr.add] using World.cell?_spot hc
    subst hsp
    refine ⟨b, o, rfl, fun i hi => ?_⟩
    obtain ⟨q0, q1, q2, q3, q4, q5, q6, q7, q8, q9, q10⟩ := hV i hi
    rw [add_plain] at q0 q1 q2 q3 q4
    exact ⟨q0, by rw [← q1, Nat.add_assoc], by rw [← q2, Nat.add_assoc], by rw [← q3, Nat.add_assoc], by rw [← q4, Nat.add_assoc], q5, q6, q7, q8, q9, q10⟩
end Go.Proofs.Yticpldjcmhpjoaa
