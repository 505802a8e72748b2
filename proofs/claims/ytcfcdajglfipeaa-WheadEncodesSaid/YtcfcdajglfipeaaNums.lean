/-
  A header's numbers, and their bytes: plain.
-/
import Derived.Test.YtcfcdajglfipeaaFour
namespace Go.Proofs.Ytcfcdajglfipeaa
open Go.RowKit

/-- a header's first four numbers -/
def ns0 (g x : Int) (l : List (Int × Int)) : List Int := [g, (last_ l).1 * (last_ l).2, x, l.length]
/-- the numbers of the first k archives behind them -/
def nsTo (g x : Int) (l : List (Int × Int)) : Nat → List Int
  | 0 => ns0 g x l
  | k + 1 => nsTo g x l k ++ [offTo l k, (at_ l k).1, (at_ l k).2]
def ints (ns : List Int) : List Value := ns.map (.int .i64)
def bytesOf : List Int → List Value
  | [] => []
  | n :: r => be4 n ++ bytesOf r
theorem bytesOf_append (a b : List Int) : bytesOf (a ++ b) = bytesOf a ++ bytesOf b := by
  induction a with
  | nil => rfl
  | cons n r ih => simp [bytesOf, ih]
theorem bytesOf_length : ∀ a : List Int, (bytesOf a).length = 4 * a.length
  | [] => rfl
  | n :: r => by simp [bytesOf, be4_length, bytesOf_length r]; omega
theorem nsTo_length (g x : Int) (l : List (Int × Int)) : ∀ k, (nsTo g x l k).length = 4 + 3 * k
  | 0 => rfl
  | k + 1 => by simp [nsTo, nsTo_length g x l k]; omega
def U32 (v : Int) : Prop := 0 ≤ v ∧ v ≤ 4294967295
theorem offTo_in {g x : Int} {l : List (Int × Int)} (hm : May g x l) (k : Nat) (hk : k ≤ l.length) : 16 ≤ offTo l k ∧ offTo l k ≤ 2000000000 := by
  obtain ⟨t1, t2⟩ := sizeTo_in l l.length hm.2.1 k hk
  have := hm.1
  rw [offTo]
  omega
theorem nsTo_in {g x : Int} {l : List (Int × Int)} (hm : May g x l) : ∀ k, k ≤ l.length → ∀ v ∈ nsTo g x l k, U32 v
  | 0, _, v, hv => by
    have h1 := hm.1
    have h2 := hm.2.1 (l.length - 1) (by omega)
    obtain ⟨⟨i1, i2, i3, i4⟩, _⟩ := h2
    have h3 := hm.2.2.2
    obtain ⟨m1, m2⟩ := mul_in _ _ i1 i2 i3 i4
    rw [show at_ l (l.length - 1) = last_ l from rfl] at m1 m2
    simp only [nsTo, ns0, List.mem_cons, List.not_mem_nil, or_false] at hv
    rcases hv with rfl | rfl | rfl | rfl <;> exact ⟨by omega, by omega⟩
  | k + 1, hk, v, hv => by
    simp only [nsTo, List.mem_append, List.mem_cons, List.not_mem_nil, or_false] at hv
    rcases hv with hv | rfl | rfl | rfl
    · exact nsTo_in hm k (by omega) v hv
    · have := offTo_in hm k (by omega); exact ⟨by omega, by omega⟩
    · obtain ⟨⟨i1, i2, i3, i4⟩, _⟩ := hm.2.1 k (by omega); exact ⟨by omega, by omega⟩
    · obtain ⟨⟨i1, i2, i3, i4⟩, _⟩ := hm.2.1 k (by omega); exact ⟨by omega, by omega⟩
def hdB (g x : Int) (l : List (Int × Int)) : List Value := bytesOf (nsTo g x l l.length)
theorem hdB_length (g x : Int) (l : List (Int × Int)) : (hdB g x l).length = 16 + 12 * l.length := by rw [hdB, bytesOf_length, nsTo_length]; omega
def nth (ns : List Int) (k : Nat) : Int := ns.getD k 0
theorem nth_mem {ns : List Int} {k : Nat} (h : k < ns.length) : nth ns k ∈ ns := by
  have : nth ns k = ns[k] := by simp [nth, h]
  rw [this]
  exact List.getElem_mem h
theorem ints_at {ns : List Int} {k : Nat} (h : k < ns.length) : (ints ns)[k]? = some (.int .i64 (nth ns k)) := by
  simp [ints, nth, h]
theorem ints_length (ns : List Int) : (ints ns).length = ns.length := by simp [ints]
theorem bytes_take {ns : List Int} {k : Nat} (h : k < ns.length) : bytesOf (ns.take (k + 1)) = bytesOf (ns.take k) ++ be4 (nth ns k) := by
  have : nth ns k = ns[k] := by simp [nth, h]
  rw [List.take_add_one, bytesOf_append, List.getElem?_eq_getElem h, this]
  simp [bytesOf]
theorem ints_one (ns : List Int) : ∀ u ∈ ints ns, u.oneCell' = true := by
  intro u hu
  simp only [ints, List.mem_map] at hu
  obtain ⟨_, _, rfl⟩ := hu
  rfl
end Go.Proofs.Ytcfcdajglfipeaa
