/-
  What a header is; the walk of size.
-/
import Derived.Test.YtcfcdajglfipeaaSide
namespace Go.Proofs.Ytcfcdajglfipeaa
open Go.RowKit

instance instDecInR (p : Int × Int) : Decidable (InR p) := by unfold InR; infer_instance
def at_ (l : List (Int × Int)) (i : Nat) : Int × Int := l.getD i (0, 0)
def Good (l : List (Int × Int)) (k : Nat) : Prop := ∀ i, i < k → InR (at_ l i) ∧ (0 < i → sideB (at_ l (i - 1)) (at_ l i) = true)
instance instDecGood (l : List (Int × Int)) (k : Nat) : Decidable (Good l k) := by unfold Good; infer_instance
def sizeTo (l : List (Int × Int)) : Nat → Int
  | 0 => 16
  | k + 1 => sizeTo l k + (12 + 12 * (at_ l k).2)
def last_ (l : List (Int × Int)) : Int × Int := at_ l (l.length - 1)
def May (g x : Int) (l : List (Int × Int)) : Prop :=
  (1 ≤ g ∧ g ≤ 5 ∧ 0 ≤ x ∧ x ≤ 1000000 ∧ 1 ≤ l.length ∧ l.length ≤ 8) ∧ Good l l.length ∧ sizeTo l l.length ≤ 1048576 ∧ (last_ l).1 * (last_ l).2 ≤ 4294967295
instance instDecMay (g x : Int) (l : List (Int × Int)) : Decidable (May g x l) := by unfold May; infer_instance

theorem sizeTo_in (l : List (Int × Int)) (n : Nat) (hg : Good l n) : ∀ k, k ≤ n → 16 ≤ sizeTo l k ∧ sizeTo l k ≤ 16 + 201326604 * k
  | 0, _ => by simp [sizeTo]
  | k + 1, hk => by
    have ih := sizeTo_in l n hg k (by omega)
    have h := (hg k (by omega)).1
    obtain ⟨_, _, h3, h4⟩ := h
    simp only [sizeTo]
    omega

/-- archives in memory -/
def ArchAt (w : World) (b o : Nat) (l : List (Int × Int)) : Prop :=
  b < w.heap.size ∧ ∀ i, i < l.length → w.cell? ⟨b, o + i * 2, none⟩ = some (.int .i64 (at_ l i).1) ∧ w.cell? ⟨b, o + i * 2 + 1, none⟩ = some (.int .i64 (at_ l i).2)

theorem ArchAt.below {w w' : World} {b o B : Nat} {l : List (Int × Int)} (h : ArchAt w b o l) (hB : b < B) (hb : Below B w w') : ArchAt w' b o l :=
  ⟨Nat.lt_of_lt_of_le h.1 hb.size, fun i hi => ⟨(hb.cell (p := ⟨b, _, none⟩) hB).trans (h.2 i hi).1, (hb.cell (p := ⟨b, _, none⟩) hB).trans (h.2 i hi).2⟩⟩

set_option maxHeartbeats 1000000 in
theorem size_any (g x : Int) (b o c : Nat) (l : List (Int × Int)) (hn1 : 1 ≤ l.length) (hn : l.length ≤ 8) (hg : Good l l.length) (w : World) (ha : ArchAt w b o l) :
    Calls Try.prog 21 #[.agg #[.int .i64 g, .int .i64 x, .slice (some ⟨b, o, none⟩) l.length c]] w fun e w' => e = .returned (.int .i64 (sizeTo l l.length)) ∧ Below w.heap.size w w' := by
  obtain ⟨n, hnn⟩ : ∃ n, n = l.length := ⟨_, rfl⟩
  rw [← hnn] at hn1 hn ⊢
  have HN := Lib.hid hnn
  have HA := Lib.hid ha
  have hb := ha.1
  clear hnn ha
  go_enter Try.func21, Try.ntmps21
  go_wp2
  obtain ⟨W0, hW⟩ : ∃ W0, W0 = w.alloc (.cells #[.int .i64 g, .int .i64 x, .slice (some ⟨b, o, none⟩) n c] 24) := ⟨_, rfl⟩
  have hbW : Below w.heap.size w W0 := by rw [hW]; exact (Below.refl _ _).alloc (Nat.le_refl _) _
  rw [← hW]
  clear hW
  go_loopw [3, 9] (fun t i wr => ∃ k : Nat, k ≤ n ∧ i = .int .i64 k ∧ t = .int .i64 (sizeTo l k) ∧ Below w.heap.size w wr) (fun _ i _ => n - (intOf i).toNat)
  case atStart => exact ⟨0, by omega, rfl, rfl, hbW⟩
  case round =>
    obtain ⟨k, hk, rfl, rfl, hbel⟩ := hrel
    by_cases hlt : k < n
    · obtain ⟨h1, h2⟩ := HA.out.2 k (by rw [← HN.out]; exact hlt)
      obtain ⟨t1, t2⟩ := sizeTo_in l l.length hg k (by rw [← HN.out]; omega)
      obtain ⟨⟨_, _, a3, a4⟩, _⟩ := hg k (by rw [← HN.out]; omega)
      have c1 := (hbel.cell (p := ⟨b, _, none⟩) hb).trans h1
      have c2 := (hbel.cell (p := ⟨b, _, none⟩) hb).trans h2
      clear h1 h2
      go_wp2
      go_roundw
      case rel => exact ⟨k + 1, by omega, by go_num, by simp only [sizeTo], hbel.alloc hbel.size _⟩
      case measure => simp [intOf]; omega
    · obtain rfl : k = n := by omega
      go_wp2
      go_ret
      exact ⟨rfl, hbel⟩
end Go.Proofs.Ytcfcdajglfipeaa
