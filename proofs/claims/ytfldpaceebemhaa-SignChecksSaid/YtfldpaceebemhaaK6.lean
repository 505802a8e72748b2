/-
  A node that came in, as a tree in memory.
-/
import Derived.Test.YtfldpaceebemhaaK5
import Derived.Deep.SlicePairs
import Derived.Lib.SmallJoins
import Derived.ProofKit
namespace Go.Proofs.Ytfldpaceebemhaa
open Go.RowKit Go.ChangeShapes Go.WideShapes Go.Deep Go.Joins

theorem KidsOk.zero (w : World) (a : Option Addr) : ∀ f, KidsOk f w a 0
  | 0 => rfl
  | _ + 1 => ⟨fun _ => ⟨0, ⟨#[]⟩, 0, none, 0, 0⟩, ⟨Nat.zero_le _, fun h => absurd h (by omega)⟩, fun i hi => absurd hi (by omega)⟩
theorem KidsOk.succ {w : World} : ∀ {f : Nat} {a : Option Addr} {l : Nat}, KidsOk f w a l → KidsOk (f + 1) w a l
  | 0, a, l, h => by
    have h0 : l = 0 := h
    subst h0
    exact KidsOk.zero w a 1
  | f + 1, _, _, h => by
    obtain ⟨K, h1, h2⟩ := h
    exact ⟨K, h1, fun i hi => (h2 i hi).succ⟩
theorem open_kids {H : Type} {enc : TypeId × Value → H} {W : World} : ∀ (m : Nat) (cs : List Value) (x : DataW H × List MemPlace), DataW.trod enc Try.prog W 0 (fun _ => true) true m 22 cs = some x →
    ∃ a l c, cs = [.slice a l c] ∧ KidsOk m W a l := by
  intro m
  induction m using Nat.strongRecOn with
  | ind m ih =>
  intro cs x h
  rcases DataW.trod_slice Try.underlying22 h with ⟨h0, _⟩ | ⟨a, len, cap, elems, rest, n, rfl, hcs, _, _, hl, hm, hlen, hel, _⟩
  · exact ⟨none, 0, 0, h0, KidsOk.zero W none m⟩
  · refine ⟨some a, len, cap, hcs, ?_⟩
    have each : ∀ i, ∃ k : KidD, i < len → (W.cell? (a.add (i * 4)) = some (.int .i64 k.kd) ∧ W.cell? (a.add (i * 4 + 1)) = some (.string k.tx) ∧ W.cell? (a.add (i * 4 + 2)) = some (.int .i64 k.n) ∧ W.cell? (a.add (i * 4 + 3)) = some (.slice k.ao k.l k.c) ∧ k.tx.size ≤ maxLen) ∧ KidsOk n W k.ao k.l := by
      intro i
      by_cases hi : i < len
      · have h1 := hel i hi
        rw [List.getElem?_eq_getElem (by omega)] at h1
        obtain ⟨cs', h2, h3⟩ := Option.bind_eq_some_iff.mp h1
        obtain ⟨_, hcl, hcell⟩ := World.cells?_some h2
        rw [show Try.prog.cellsOf 24 = 4 from by kernel_rfl] at h2 hcl hcell
        obtain ⟨xs, n', rfl, hx, _, hxl, hf⟩ := DataW.trod_struct Try.underlying24 h3
        match xs, hxl, cs', hcl with
        | [y0, y1, y2, y3], _, [v0, v1, v2, v3], _ =>
          have g0 : DataW.trod enc Try.prog W 0 (fun _ => true) true n' 3 (List.take (Try.prog.cellsOf 3) (List.drop 0 [v0, v1, v2, v3])) = [y0, y1, y2, y3][0]? := hf 0 _ rfl
          have g1 : DataW.trod enc Try.prog W 0 (fun _ => true) true n' 9 (List.take (Try.prog.cellsOf 9) (List.drop 1 [v0, v1, v2, v3])) = [y0, y1, y2, y3][1]? := hf 1 _ rfl
          have g2 : DataW.trod enc Try.prog W 0 (fun _ => true) true n' 3 (List.take (Try.prog.cellsOf 3) (List.drop 2 [v0, v1, v2, v3])) = [y0, y1, y2, y3][2]? := hf 2 _ rfl
          have g3 : DataW.trod enc Try.prog W 0 (fun _ => true) true n' 22 (List.take (Try.prog.cellsOf 22) (List.drop 3 [v0, v1, v2, v3])) = [y0, y1, y2, y3][3]? := hf 3 _ rfl
          rw [show Try.prog.cellsOf 3 = 1 from by kernel_rfl] at g0 g2
          rw [show Try.prog.cellsOf 9 = 1 from by kernel_rfl] at g1
          rw [show Try.prog.cellsOf 22 = 1 from by kernel_rfl] at g3
          simp at g0 g1 g2 g3
          obtain ⟨kd, e0, _, _⟩ := DataW.trod_int Try.underlying3 g0
          obtain ⟨tx, e1, _, ht⟩ := DataW.trod_string Try.underlying9 g1
          obtain ⟨nn, e2, _, _⟩ := DataW.trod_int Try.underlying3 g2
          obtain ⟨ao, l, c, e3, hk⟩ := ih n' (by omega) _ _ g3
          simp only [List.cons.injEq, and_true] at e0 e1 e2 e3
          subst e0 e1 e2 e3
          have c0 := hcell 0 (by omega)
          have c1 := hcell 1 (by omega)
          have c2 := hcell 2 (by omega)
          have c3 := hcell 3 (by omega)
          rw [add_add] at c0 c1 c2 c3
          exact ⟨⟨kd, tx, nn, ao, l, c⟩, fun _ => ⟨⟨c0, c1, c2, c3, ht⟩, hk.succ⟩⟩
      · exact ⟨⟨0, ⟨#[]⟩, 0, none, 0, 0⟩, fun h => absurd h hi⟩
    obtain ⟨K, hK⟩ := Classical.axiomOfChoice each
    refine ⟨K, ⟨by omega, fun h0 => ?_⟩, fun i hi => (hK i hi).2⟩
    obtain ⟨b, o, sp⟩ := a
    have hc := (hK 0 h0).1.1
    have hsp : sp = none := by simpa [Addr.add] using World.cell?_spot hc
    subst hsp
    refine ⟨b, o, rfl, World.block_lt_of_cell? W ⟨b, o, none⟩ (by simpa [Addr.add] using hc), fun i hi => ?_⟩
    obtain ⟨q0, q1, q2, q3, q4⟩ := (hK i hi).1
    have e : ∀ j, (⟨b, o, none⟩ : Addr).add j = ⟨b, o + j, none⟩ := fun j => by unfold Addr.add; split <;> simp_all
    rw [e] at q0 q1 q2 q3
    refine ⟨q0, ?_, ?_, ?_, q4⟩
    · rw [← q1, Nat.add_assoc]
    · rw [← q2, Nat.add_assoc]
    · rw [← q3, Nat.add_assoc]
end Go.Proofs.Ytfldpaceebemhaa
