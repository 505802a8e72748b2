/-
  The walks of bytes.Equal, bytes.HasPrefix.
-/
import Derived.Test.YtcfcdajglfipeaaConv
namespace Go.Proofs.Ytcfcdajglfipeaa
open Go.RowKit

/-- a slice that reads as these bytes -/
def RdB (xs : List Value) (g o c : Nat) (w : World) : Prop :=
  AllU8 xs ∧ xs.length ≤ c ∧ g < w.heap.size ∧ ∀ j u, xs[j]? = some u → w.cell? ⟨g, o + j, none⟩ = some u
theorem RdB.grow {xs : List Value} {g o c : Nat} {w w' : World} (h : RdB xs g o c w) (hg : Grow w w') : RdB xs g o c w' :=
  ⟨h.1, h.2.1, Nat.lt_of_lt_of_le h.2.2.1 hg.size, fun j u hu => (Below.cell hg (p := ⟨g, _, none⟩) h.2.2.1).trans (h.2.2.2 j u hu)⟩
theorem RdB.take {xs : List Value} {g o c : Nat} {w : World} (h : RdB xs g o c w) (k : Nat) : RdB (xs.take k) g o c w :=
  ⟨h.1.take k, by have := h.2.1; simp; omega, h.2.2.1, fun j u hu => h.2.2.2 j u (by rw [List.getElem?_take] at hu; split at hu <;> simp_all)⟩

def eqB (xs ys : List Value) : Bool := (strOf xs).toList == (strOf ys).toList
theorem eqB_self (xs : List Value) : eqB xs xs = true := by simp [eqB]
theorem eqB_comm (xs ys : List Value) : eqB xs ys = eqB ys xs := by
  simp only [eqB]
  exact Bool.eq_iff_iff.2 ⟨fun h => by rw [beq_iff_eq] at h ⊢; exact h.symm, fun h => by rw [beq_iff_eq] at h ⊢; exact h.symm⟩

theorem equal_any (g1 o1 c1 g2 o2 c2 n1 n2 : Nat) (xs ys : List Value) (w : World) (hx : RdB xs g1 o1 c1 w) (hy : RdB ys g2 o2 c2 w) (h1 : xs.length = n1) (h2 : ys.length = n2) :
    Calls Try.prog 28 #[.slice (some ⟨g1, o1, none⟩) n1 c1, .slice (some ⟨g2, o2, none⟩) n2 c2] w fun e w' => e = .returned (.bool (eqB xs ys)) ∧ w' = w := by
  have e1 := conv_cells (c := c1) h1 hx.1 hx.2.2.2
  have e2 := conv_cells (c := c2) h2 hy.1 hy.2.2.2
  clear hx hy h1 h2
  go_enter Try.func28, Try.ntmps28
  go_wp2
  go_ret
  exact ⟨rfl, rfl⟩

theorem hasPrefix_no (a1 a2 : Option Addr) (c1 c2 n1 n2 : Nat) (w : World) (h : n1 < n2) :
    Calls Try.prog 26 #[.slice a1 n1 c1, .slice a2 n2 c2] w fun e w' => e = .returned (.bool false) ∧ w' = w := by
  have h' : (n1 : Int) < (n2 : Int) := by omega
  clear h
  go_enter Try.func26, Try.ntmps26
  go_wp2
  go_ret
  exact ⟨rfl, rfl⟩

theorem hasPrefix_yes (g1 o1 c1 g2 o2 c2 n1 n2 : Nat) (xs ys : List Value) (w : World) (hx : RdB xs g1 o1 c1 w) (hy : RdB ys g2 o2 c2 w) (h1 : xs.length = n1) (h2 : ys.length = n2) (hle : n2 ≤ n1) :
    Calls Try.prog 26 #[.slice (some ⟨g1, o1, none⟩) n1 c1, .slice (some ⟨g2, o2, none⟩) n2 c2] w fun e w' => e = .returned (.bool (eqB (xs.take n2) ys)) ∧ w' = w := by
  have E := Lib.hid (equal_any g1 o1 c1 g2 o2 c2 n2 n2 (xs.take n2) ys w (hx.take n2) hy (by simp; omega) h2)
  have q0 : ¬ (n1 : Int) < (n2 : Int) := by omega
  have q1 : (n2 : Int) ≤ (n1 : Int) := by omega
  have q2 : (n2 : Int) ≤ (c1 : Int) := by have := hx.2.1; omega
  clear hx hy h1 h2 hle
  go_enter Try.func26, Try.ntmps26
  go_wp2_with fail
  refine E.out.mono ?_
  rintro e w' ⟨rfl, rfl⟩
  go_wp2
  go_ret
  exact ⟨rfl, rfl⟩
end Go.Proofs.Ytcfcdajglfipeaa
