/-
  The walk of graticuleref17.Names.
-/
import Derived.Test.YtfldpaceebemhaaN4
namespace Go.Proofs.Ytfldpaceebemhaa
open Go.RowKit

def ltB (y x : ByteArray) : Bool := Op.bytesLess y.toList x.toList
def insAt (L : List ByteArray) (x : ByteArray) : Nat := (L.takeWhile fun y => ltB y x).length
def insN (L : List ByteArray) (x : ByteArray) : List ByteArray := L.take (insAt L x) ++ [x] ++ L.drop (insAt L x)
def LK : Nat → List ByteArray
  | 0 => []
  | k + 1 => (nmsF k).foldl insN (LK k)
def LKI (k i : Nat) : List ByteArray := ((nmsF k).take i).foldl insN (LK k)
theorem insAt_eq (L : List ByteArray) (x : ByteArray) (j : Nat) (h : ∀ i y, i < j → L[i]? = some y → ltB y x = true) (he : ∀ y, L[j]? = some y → ltB y x = false) (hj : j ≤ L.length) : insAt L x = j := by
  unfold insAt
  induction L generalizing j with
  | nil => simp at hj; simp [hj]
  | cons a L ih =>
    cases j with
    | zero =>
      have := he a rfl
      simp [List.takeWhile_cons, this]
    | succ j =>
      have h0 := h 0 a (by omega) rfl
      rw [List.takeWhile_cons, h0]
      simp only [if_true, List.length_cons]
      rw [ih j (fun i y hi hy => h (i + 1) y (by omega) (by simpa using hy)) (fun y hy => he y (by simpa using hy)) (by simpa using hj)]
theorem insN_len (L : List ByteArray) (x : ByteArray) : (insN L x).length = L.length + 1 := by
  unfold insN
  have h : insAt L x ≤ L.length := by
    unfold insAt
    exact (List.takeWhile_sublist _).length_le
  simp [List.length_take, List.length_drop]
  omega
theorem fold_len : ∀ (xs L : List ByteArray), (xs.foldl insN L).length = L.length + xs.length
  | [], L => rfl
  | x :: xs, L => by
    rw [List.foldl_cons, fold_len xs, insN_len, List.length_cons]
    omega
theorem LK_len : ∀ k, k ≤ 18 → (LK k).length ≤ 100 * k
  | 0, _ => by simp [LK]
  | k + 1, h => by
    have h1 := LK_len k (by omega)
    have h2 := nmsF_len k (by omega)
    rw [LK, fold_len]
    omega
theorem LKI_len (k i : Nat) (hk : k < 18) : (LKI k i).length ≤ 2000 := by
  have h1 := LK_len k (by omega)
  have h2 := nmsF_len k hk
  unfold LKI
  rw [fold_len, List.length_take]
  omega
theorem LKI_next (k i : Nat) (x : ByteArray) (h : (nmsF k)[i]? = some x) : LKI k (i + 1) = insN (LKI k i) x := by
  unfold LKI
  rw [List.take_add_one, h, List.foldl_append]
  rfl
theorem LKI_end (k : Nat) : LKI k (nmsF k).length = LK (k + 1) := by
  unfold LKI
  rw [List.take_length]
  rfl
theorem LK_all : LK 18 = namesS := by decide +kernel
end Go.Proofs.Ytfldpaceebemhaa
