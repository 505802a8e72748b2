/-
  A header that came in, as its archives.
-/
import Derived.Test.YtcfcdajglfipeaaOffset
import Derived.Deep.SlicePairs
import Derived.Lib.SmallJoins
import Derived.ProofKit
namespace Go.Proofs.Ytcfcdajglfipeaa
open Go.RowKit Go.ChangeShapes Go.WideShapes Go.Deep

theorem i64_of {x : Int} (h : (Lit.int .i64 x).wf = true) : I64 x := by
  simp [Lit.wf, IntKind.min, IntKind.max, IntKind.signed, IntKind.bits] at h
  exact ⟨by omega, by omega⟩

theorem open_arcs {H : Type} {enc : TypeId × Value → H} {W : World} {m : Nat} {cs : List Value} {x : DataW H × List MemPlace} (h : DataW.trod enc Try.prog W 0 (fun _ => true) true m 22 cs = some x) :
    ∃ ao n c l, cs = [.slice ao n c] ∧ Hd W ao n c l := by
  rcases open_slice_pairs Try.underlying22 Try.underlying28 (by kernel_rfl) rfl rfl (by kernel_rfl) (by kernel_rfl) h with ⟨h0, _⟩ | ⟨a, len, cap, m', n, V0, V1, D0, D1, P0, P1, hcs, _, hl, hm, hmm, _, hi⟩
  · exact ⟨none, 0, 0, [], h0, rfl, Nat.le_refl _, fun i hi => absurd hi (by simp), fun h => absurd h (by omega)⟩
  · simp only [if_true] at hmm
    subst hmm
    obtain ⟨f, hfd⟩ : ∃ f : Nat → Int × Int, f = fun i => (intOf (V0 i), intOf (V1 i)) := ⟨_, rfl⟩
    have hf : ∀ i, i < len → W.cell? (a.add (i * 2)) = some (.int .i64 (f i).1) ∧ W.cell? (a.add (i * 2 + 1)) = some (.int .i64 (f i).2) ∧ I64 (f i).1 ∧ I64 (f i).2 := fun i hil => by
      obtain ⟨h1, h2, h3, h4⟩ := hi i (by omega)
      obtain ⟨p, e1, _, w1⟩ := DataW.trod_int Try.underlying3 h3
      obtain ⟨q, e2, _, w2⟩ := DataW.trod_int Try.underlying3 h4
      simp only [List.cons.injEq, and_true] at e1 e2
      have f1 : (f i).1 = p := by rw [hfd]; simp [e1, intOf]
      have f2 : (f i).2 = q := by rw [hfd]; simp [e2, intOf]
      rw [f1, f2, h1, h2, e1, e2]
      exact ⟨rfl, rfl, i64_of w1, i64_of w2⟩
    clear hfd
    have hat : ∀ i, i < len → at_ ((List.range len).map f) i = f i := fun i hil => by simp [at_, List.getD, hil]
    refine ⟨some a, len, _, (List.range len).map f, hcs, by simp, hl, fun i hil => ?_, fun h0 => ?_⟩
    · rw [hat i (by simpa using hil)]
      exact (hf i (by simpa using hil)).2.2
    · obtain ⟨b, o, sp⟩ := a
      have hc := (hf 0 h0).1
      have hsp : sp = none := by simpa [Addr.add] using World.cell?_spot hc
      subst hsp
      refine ⟨b, o, rfl, World.block_lt_of_cell? W ⟨b, o, none⟩ (by simpa [Addr.add] using hc), fun i hil => ?_⟩
      have hil' : i < len := by simpa using hil
      rw [hat i hil']
      obtain ⟨h1, h2, _⟩ := hf i hil'
      refine ⟨?_, ?_⟩
      · rw [← h1]; unfold Addr.add; split <;> simp_all
      · rw [← h2]; unfold Addr.add; split <;> simp_all [Nat.add_assoc]
end Go.Proofs.Ytcfcdajglfipeaa
