/-
  The walk of SlotWrites, whatever bytes come in.
-/
import Derived.Test.YtjgfhkgjaodjhaaWLawB
namespace Go.Proofs.Ytjgfhkgjaodjhaa
open Go.RowKit

/-- a row that came in, of at least one element, as cells -/
theorem IsRow.cells {w : World} {ao : Option Addr} {len cap : Nat} {zs : List Int} (h : IsRow .u8 w ao len cap zs) (hl : 0 < len) :
    ∃ b o, ao = some ⟨b, o, none⟩ ∧ b < w.heap.size ∧ len ≤ cap ∧ cap ≤ maxLen ∧ ((zs.take len).map (Value.int .u8)).length = len ∧ (∀ n ∈ zs, 0 ≤ n ∧ n < 256) ∧
      ∀ j u, ((zs.take len).map (Value.int .u8))[j]? = some u → w.cell? ((⟨b, o, none⟩ : Addr).add j) = some u := by
  rcases h with ⟨_, h0, _⟩ | ⟨x, rfl, h1, h2, h3, h4, h5⟩
  · omega
  · obtain ⟨b, o, sp⟩ := x
    have hc := h4 0 (by omega)
    have hsp : sp = none := by simpa [Addr.add] using World.cell?_spot hc
    subst hsp
    refine ⟨b, o, rfl, ?_, h1, h2, by simp; omega, fun n hn => ?_, fun j u hu => ?_⟩
    · exact World.block_lt_of_cell? w ⟨b, o, none⟩ (by simpa [Addr.add] using hc)
    · have := h5 n hn
      simp [Lit.wf, IntKind.min, IntKind.max, IntKind.signed, IntKind.bits] at this
      omega
    · rw [List.getElem?_map] at hu
      cases hz : (zs.take len)[j]? with
      | none => rw [hz] at hu; cases hu
      | some z =>
        rw [hz] at hu
        simp only [Option.map_some, Option.some.injEq] at hu
        have hj : j < len := by have := (List.getElem?_eq_some_iff.1 hz).1; simp at this; omega
        rw [List.getElem?_take_of_lt hj] at hz
        have := h4 j (by omega)
        rw [this, ← hu]
        simp [List.getD, hz]

theorem wlaw_any (a n : Int) (hn : I64 n) (ao : Option Addr) (len cap : Nat) (zs : List Int) (w : World) (h : IsRow .u8 w ao len cap zs) :
    Calls Try.prog 5 #[.agg #[.int .i64 a, .int .i64 n], .slice ao len cap] w fun e w' => e = .returned (.bool true) ∧ Below w.heap.size w w' := by
  by_cases hl : len = 12
  · subst hl
    obtain ⟨b, o, rfl, hb, _, _, hlen, hu, hc⟩ := h.cells (by omega)
    exact wlaw_yes a n hn b o cap _ hlen w hb hc (fun u hu => by obtain ⟨_, _, rfl⟩ := List.mem_map.1 hu; rfl)
  · exact wlaw_no a n ao len cap hl w
end Go.Proofs.Ytjgfhkgjaodjhaa
