/-
  What a header's bytes, and any behind them, read as: the header: plain.
-/
import Derived.Test.YtcfcdajglfipeaaDec2
namespace Go.Proofs.Ytcfcdajglfipeaa
open Go.RowKit

theorem bytesOf_at : ∀ (ns : List Int) (j i : Nat), j < ns.length → i < 4 → (bytesOf ns)[4 * j + i]? = (be4 (nth ns j))[i]?
  | [], _, _, h, _ => absurd h (by simp)
  | n :: r, 0, i, _, hi => by
    rw [Nat.mul_zero, Nat.zero_add, bytesOf, List.getElem?_append_left (by rw [be4_length]; exact hi)]
    simp [nth]
  | n :: r, j + 1, i, h, hi => by
    have ih := bytesOf_at r j i (by simpa using h) hi
    rw [bytesOf, List.getElem?_append_right (by rw [be4_length]; omega), be4_length, show 4 * (j + 1) + i - 4 = 4 * j + i from by omega, ih]
    simp [nth]
theorem nm_bytes {ns : List Int} {ms : List Value} {j : Nat} (hj : j < ns.length) (hu : U32 (nth ns j)) : nm (bytesOf ns ++ ms) (4 * j) = nth ns j := by
  have hl := bytesOf_length ns
  have at_i : ∀ i, i < 4 → (bytesOf ns ++ ms)[4 * j + i]? = (be4 (nth ns j))[i]? := fun i hi => by
    rw [List.getElem?_append_left (by omega), bytesOf_at ns j i hj hi]
  have e0 : bv (bytesOf ns ++ ms) (4 * j) = nth ns j / 16777216 := by unfold bv; rw [show 4 * j = 4 * j + 0 from rfl, at_i 0 (by omega)]; rfl
  have e1 : bv (bytesOf ns ++ ms) (4 * j + 1) = nth ns j / 65536 % 256 := by unfold bv; rw [at_i 1 (by omega)]; rfl
  have e2 : bv (bytesOf ns ++ ms) (4 * j + 2) = nth ns j / 256 % 256 := by unfold bv; rw [at_i 2 (by omega)]; rfl
  have e3 : bv (bytesOf ns ++ ms) (4 * j + 3) = nth ns j % 256 := by unfold bv; rw [at_i 3 (by omega)]; rfl
  obtain ⟨u0, u1⟩ := hu
  rw [nm_eq, e0, e1, e2, e3]
  have q1 : nth ns j / 256 / 256 = nth ns j / 65536 := by omega
  have q2 : nth ns j / 65536 / 256 = nth ns j / 16777216 := by omega
  omega
theorem nth_append_left {a b : List Int} {k : Nat} (h : k < a.length) : nth (a ++ b) k = nth a k := by
  simp [nth, List.getElem?_append_left h]
theorem nth_append_right {a b : List Int} {k : Nat} (h : a.length ≤ k) : nth (a ++ b) k = nth b (k - a.length) := by
  simp [nth, List.getElem?_append_right h]
theorem nsTo_low (g x : Int) (l : List (Int × Int)) : ∀ m k, k < 4 → nth (nsTo g x l m) k = nth (ns0 g x l) k
  | 0, _, _ => rfl
  | m + 1, k, hk => by rw [nsTo, nth_append_left (by rw [nsTo_length]; omega), nsTo_low g x l m k hk]
theorem nsTo_arc (g x : Int) (l : List (Int × Int)) : ∀ m k, k < m → nth (nsTo g x l m) (5 + 3 * k) = (at_ l k).1 ∧ nth (nsTo g x l m) (6 + 3 * k) = (at_ l k).2
  | 0, _, h => absurd h (by omega)
  | m + 1, k, h => by
    rw [nsTo]
    by_cases hk : k < m
    · rw [nth_append_left (by rw [nsTo_length]; omega), nth_append_left (by rw [nsTo_length]; omega)]
      exact nsTo_arc g x l m k hk
    · obtain rfl : k = m := by omega
      rw [nth_append_right (by rw [nsTo_length]; omega), nth_append_right (by rw [nsTo_length]; omega), nsTo_length, show 5 + 3 * k - (4 + 3 * k) = 1 from by omega, show 6 + 3 * k - (4 + 3 * k) = 2 from by omega]
      exact ⟨rfl, rfl⟩
theorem arcs_of {g x : Int} {l : List (Int × Int)} (hm : May g x l) (ms : List Value) : ∀ k, k ≤ l.length → arcs (hdB g x l ++ ms) k = l.take k
  | 0, _ => by simp [arcs]
  | k + 1, hk => by
    have hk' : k < l.length := hk
    have hu : ∀ j, j < 4 + 3 * l.length → U32 (nth (nsTo g x l l.length) j) := fun j hj => nsTo_in hm l.length (Nat.le_refl _) _ (nth_mem (by rw [nsTo_length]; exact hj))
    obtain ⟨e1, e2⟩ := nsTo_arc g x l l.length k hk'
    rw [arcs, arcs_of hm ms k (by omega), List.take_succ_eq_append_getElem hk']
    congr 2
    rw [arc1, hdB, show 20 + 12 * k = 4 * (5 + 3 * k) from by omega, show 24 + 12 * k = 4 * (6 + 3 * k) from by omega, nm_bytes (by rw [nsTo_length]; omega) (hu _ (by omega)), nm_bytes (by rw [nsTo_length]; omega) (hu _ (by omega)), e1, e2]
    simp [at_, hk']
theorem back {g x : Int} {l : List (Int × Int)} (hm : May g x l) (h8 : 1 ≤ l.length ∧ l.length ≤ 8) (ms : List Value) :
    DecOk (hdB g x l ++ ms) ∧ nm (hdB g x l ++ ms) 0 = g ∧ nm (hdB g x l ++ ms) 8 = x ∧ (nm (hdB g x l ++ ms) 12).toNat = l.length ∧ arcs (hdB g x l ++ ms) l.length = l := by
  have hu : ∀ j, j < 4 + 3 * l.length → U32 (nth (nsTo g x l l.length) j) := fun j hj => nsTo_in hm l.length (Nat.le_refl _) _ (nth_mem (by rw [nsTo_length]; exact hj))
  have q0 : nm (hdB g x l ++ ms) 0 = g := by
    rw [hdB, show (0 : Nat) = 4 * 0 from rfl, nm_bytes (by rw [nsTo_length]; omega) (hu _ (by omega)), nsTo_low _ _ _ _ _ (by omega)]; rfl
  have q2 : nm (hdB g x l ++ ms) 8 = x := by
    rw [hdB, show (8 : Nat) = 4 * 2 from rfl, nm_bytes (by rw [nsTo_length]; omega) (hu _ (by omega)), nsTo_low _ _ _ _ _ (by omega)]; rfl
  have q3 : nm (hdB g x l ++ ms) 12 = l.length := by
    rw [hdB, show (12 : Nat) = 4 * 3 from rfl, nm_bytes (by rw [nsTo_length]; omega) (hu _ (by omega)), nsTo_low _ _ _ _ _ (by omega)]; rfl
  have q4 : (nm (hdB g x l ++ ms) 12).toNat = l.length := by rw [q3]; omega
  have q5 : arcs (hdB g x l ++ ms) l.length = l := by rw [arcs_of hm ms _ (Nat.le_refl _), List.take_length]
  have hlen := hdB_length g x l
  refine ⟨⟨by rw [List.length_append]; omega, by rw [q3]; omega, by rw [q3]; omega, by rw [q4, List.length_append]; omega, by rw [q0, q2, q4, q5]; exact hm, ?_⟩, q0, q2, q4, q5⟩
  rw [q0, q2, q4, q5, ← hlen, List.take_left]
  exact eqB_self _
end Go.Proofs.Ytcfcdajglfipeaa
