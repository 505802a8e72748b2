/-
  Bytes that came in, as the walk wants them.
-/
import Derived.Test.YticpldjcmhpjoaaQi

namespace Go.Proofs.Yticpldjcmhpjoaa
open Go.RowKit
set_option linter.unusedVariables false
set_option linter.unusedSimpArgs false

/-- WHAT THE WALK IS TOLD OF A SLICE OF INTEGERS THAT CAME IN. -/
def IsRow (k : IntKind) (w : World) (a : Option Addr) (len cap : Nat) (zs : List Int) : Prop :=
  (a = none ∧ len = 0 ∧ cap = 0 ∧ zs = []) ∨
  ∃ x, a = some x ∧ len ≤ cap ∧ cap ≤ maxLen ∧ zs.length = cap ∧ (∀ i, i < zs.length → w.cell? (x.add i) = some (.int k (zs.getD i 0))) ∧ ∀ n ∈ zs, (Lit.int k n).wf = true
theorem wf_u8 {n : Int} (h : (Lit.int .u8 n).wf = true) : 0 ≤ n ∧ n < 256 := by
  simp [Lit.wf, IntKind.min, IntKind.max, IntKind.signed, IntKind.bits] at h
  omega
theorem spot_none {w : World} {x : Addr} {v : Value} (h : w.cell? x = some v) : x.spot = none := by
  unfold World.cell? at h
  split at h
  · split at h
    · cases h
    · rename_i hs
      cases hx : x.spot with
      | none => rfl
      | some k => rw [hx] at hs; simp at hs
  · cases h
theorem IsRow.holds {w : World} {a : Option Addr} {len cap : Nat} {zs : List Int} (h : IsRow .u8 w a len cap zs) : ∃ l : List UInt8, HoldsAt w (.slice a len cap) l := by
  rcases h with ⟨rfl, rfl, rfl, _⟩ | ⟨x, rfl, hlc, _, hz, hc, hw⟩
  · exact ⟨[], none, 0, 0, 0, rfl, Nat.le_refl _, fun h => absurd h (by simp), fun i x hx => by simp at hx⟩
  · have hlen : ((zs.take len).map fun n => UInt8.ofNat n.toNat).length = len := by simp; omega
    refine ⟨(zs.take len).map fun n => UInt8.ofNat n.toNat, some x, cap, x.block, x.off, by rw [hlen], by rw [hlen]; exact hlc, fun h0 => ?_, fun i y hy => ?_⟩
    · rw [hlen] at h0
      have := hc 0 (by omega)
      have hs := spot_none (x := x) (by simpa [Addr.add] using this)
      cases x
      simp only at hs
      subst hs
      rfl
    · have hi : i < len := by have := (List.getElem?_eq_some_iff.1 hy).1; rwa [hlen] at this
      have h1 := hc i (by omega)
      have hs := spot_none h1
      have hzi : i < zs.length := by omega
      simp only [List.getElem?_map, List.getElem?_take, if_pos hi, List.getElem?_eq_getElem hzi, Option.map_some] at hy
      injection hy with hy
      have hb := wf_u8 (hw _ (List.getElem_mem hzi))
      have hx : x.add i = ⟨x.block, x.off + i, none⟩ := by
        unfold Addr.add
        split
        · rename_i h0
          subst h0
          unfold Addr.add at hs
          rw [if_pos rfl] at hs
          cases x
          simp only at hs
          subst hs
          rfl
        · rfl
      rw [← hx, h1]
      have : zs.getD i 0 = zs[i] := by simp [List.getD, List.getElem?_eq_getElem hzi]
      rw [this]
      congr 2
      rw [← hy]
      simp
      omega
end Go.Proofs.Yticpldjcmhpjoaa
