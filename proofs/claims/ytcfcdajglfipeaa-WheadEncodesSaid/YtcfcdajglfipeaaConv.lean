/-
  Bytes as strings; the walks of bytes.Equal, bytes.HasPrefix.
-/
import Derived.Test.YtcfcdajglfipeaaWEnc
import Derived.Lib.SlBytesRow
namespace Go.Proofs.Ytcfcdajglfipeaa
open Go.RowKit

/-- the string of such bytes -/
def strOf (xs : List Value) : ByteArray := ⟨(xs.map fun v => match v with | .int _ n => UInt8.ofNat n.toNat | _ => 0).toArray⟩
def AllU8 (xs : List Value) : Prop := ∀ u ∈ xs, ∃ n : Int, u = .int .u8 n ∧ 0 ≤ n ∧ n < 256
theorem strOf_size (xs : List Value) : (strOf xs).size = xs.length := by simp [strOf, ByteArray.size]
theorem AllU8.one {xs : List Value} (h : AllU8 xs) : ∀ u ∈ xs, u.oneCell' = true := fun u hu => by obtain ⟨n, rfl, _⟩ := h u hu; rfl
theorem AllU8.take {xs : List Value} (h : AllU8 xs) (k : Nat) : AllU8 (xs.take k) := fun u hu => h u (List.mem_of_mem_take hu)
theorem bytes_at {w : World} {g o : Nat} {xs : List Value} (hu : AllU8 xs) (hc : ∀ j u, xs[j]? = some u → w.cell? ⟨g, o + j, none⟩ = some u) : Lib.Bytes w g o (strOf xs) := by
  intro i hi
  have hi' : i < xs.length := by rw [strOf_size] at hi; exact hi
  obtain ⟨n, hn, h0, h1⟩ := hu xs[i] (List.getElem_mem hi')
  rw [hc i xs[i] (List.getElem?_eq_getElem hi'), hn]
  congr 2
  have : (strOf xs)[i] = UInt8.ofNat n.toNat := by
    show (strOf xs).data[i] = _
    simp [strOf, hn]
  rw [this]
  simp only [UInt8.toNat_ofNat']
  omega
theorem conv_cells {w : World} {g o n c : Nat} {xs : List Value} (hn : xs.length = n) (hu : AllU8 xs) (hc : ∀ j u, xs[j]? = some u → w.cell? ⟨g, o + j, none⟩ = some u) :
    (convert 31 9 (.slice (some ⟨g, o, none⟩) n c)).run Try.prog w = .ok (.string (strOf xs)) w := by
  have := Lib.run_convert_whole (P := Try.prog) w 31 5 9 Try.underlying31 Try.underlying5 Try.underlying9 g o (strOf xs) (bytes_at hu hc) c
  rwa [strOf_size, hn] at this
end Go.Proofs.Ytcfcdajglfipeaa
