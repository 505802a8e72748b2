/-
  The walks of the small functions on bytes (span, dec, graticuleref16, graticuleref2).
-/
import Derived.Test.YtfldpaceebemhaaProg
import Derived.Test.YtfldpaceebemhaaBase
import Derived.WalkLawsBesides
import Derived.WalkSpells
import Derived.Lib.Hide
import Derived.Deep.QuietTactic
import Derived.BigQuiet
namespace Go.Proofs.Ytfldpaceebemhaa
open Go.RowKit

theorem ret_bool {a b : Bool} (h : a = b) : Ending.returned (.bool a) = .returned (.bool b) := by rw [h]
theorem ret_int {k : IntKind} {a b : Int} (h : a = b) : Ending.returned (.int k a) = .returned (.int k b) := by rw [h]

/-- byte p of s as a number -/
def by_ (s : ByteArray) (p : Nat) : Nat := (s.data.toList.getD p 0).toNat
theorem by_at (s : ByteArray) (p : Nat) (h : p < s.size) : by_ s p = s[p].toNat := by
  have h' : p < s.data.toList.length := by rw [Array.length_toList]; exact h
  unfold by_
  rw [List.getD_eq_getElem?_getD, List.getElem?_eq_getElem h']
  rfl
theorem by_lt (s : ByteArray) (p : Nat) : by_ s p < 256 := UInt8.toNat_lt _
theorem cast_beq (a b : Nat) : ((a : Int) == (b : Int)) = (a == b) := by
  rw [Bool.eq_iff_iff]; simp; omega

/-- is it a digit -/
def digB (c : Nat) : Bool := decide (48 ≤ c) && decide (c ≤ 57)
theorem digB_true {c : Nat} : digB c = true ↔ 48 ≤ c ∧ c ≤ 57 := by simp [digB]

theorem dig43 (c : Nat) (w : World) : Calls Try.prog 43 #[.int .u8 c] w fun e w' => e = .returned (.bool (digB c)) ∧ w = w' := by
  by_cases a5 : 48 ≤ c <;> by_cases a6 : c ≤ 57
  all_goals first
    | omega
    | (simp only [digB, a5, a6]
       go_enter Try.func43, Try.ntmps43
       go_wp2
       go_ret
       exact ⟨ret_bool (by first | (simp; done) | (simp; omega)), rfl⟩)
theorem dig64 (c : Nat) (w : World) : Calls Try.prog 64 #[.int .u8 c] w fun e w' => e = .returned (.bool (digB c)) ∧ w = w' := by
  by_cases a5 : 48 ≤ c <;> by_cases a6 : c ≤ 57
  all_goals first
    | omega
    | (simp only [digB, a5, a6]
       go_enter Try.func64, Try.ntmps64
       go_wp2
       go_ret
       exact ⟨ret_bool (by first | (simp; done) | (simp; omega)), rfl⟩)
theorem dig35 (c : Nat) (w : World) : Calls Try.prog 35 #[.int .u8 c] w fun e w' => e = .returned (.bool (digB c)) ∧ w = w' := by
  by_cases a5 : 48 ≤ c <;> by_cases a6 : c ≤ 57
  all_goals first
    | omega
    | (simp only [digB, a5, a6]
       go_enter Try.func35, Try.ntmps35
       go_wp2
       go_ret
       exact ⟨ret_bool (by first | (simp; done) | (simp; omega)), rfl⟩)
theorem dig65 (c : Nat) (w : World) : Calls Try.prog 65 #[.int .u8 c] w fun e w' => e = .returned (.bool (digB c)) ∧ w = w' := by
  by_cases a5 : 48 ≤ c <;> by_cases a6 : c ≤ 57
  all_goals first
    | omega
    | (simp only [digB, a5, a6]
       go_enter Try.func65, Try.ntmps65
       go_wp2
       go_ret
       exact ⟨ret_bool (by first | (simp; done) | (simp; omega)), rfl⟩)

/-- how many digits a text begins with, from a place on -/
def DigN (s : ByteArray) (n : Nat) : Prop := n ≤ s.size ∧ (∀ j, j < n → digB (by_ s j) = true) ∧ (n < s.size → digB (by_ s n) = false)
theorem DigN.uniq {s : ByteArray} {n m : Nat} (h : DigN s n) (k : DigN s m) : n = m := by
  rcases Nat.lt_trichotomy n m with h1 | h1 | h1
  · have a := k.2.1 n h1
    have b := h.2.2 (by have := k.1; omega)
    rw [a] at b; cases b
  · exact h1
  · have a := h.2.1 m h1
    have b := k.2.2 (by have := h.1; omega)
    rw [a] at b; cases b

theorem digits_any (s : ByteArray) (w : World) (hs : s.size ≤ maxLen) : Calls Try.prog 31 #[.string s] w fun e w' => ∃ n : Nat, e = .returned (.int .i64 n) ∧ DigN s n ∧ w = w' := by
  unfold maxLen at hs
  go_enter Try.func31, Try.ntmps31
  go_wp2
  go_loop [3] (fun i => ∃ k : Nat, k ≤ s.size ∧ i = .int .i64 k ∧ Hid (∀ j, j < k → digB (by_ s j) = true)) (fun i => s.size - (intOf i).toNat)
  case atStart => exact ⟨0, by omega, rfl, Lib.hid (fun j hj => absurd hj (by omega))⟩
  case round =>
    obtain ⟨k, hk, rfl, H⟩ := hrel
    have k0 : (0 : Int) ≤ (k : Int) := by omega
    by_cases hlt : k < s.size
    · have h1 : (k : Int) < (s.size : Int) := by omega
      have h2 : decide ((k : Int) < (s.size : Int)) = true := by simpa using h1
      obtain ⟨c, hc⟩ : ∃ c, c = s[k].toNat := ⟨_, rfl⟩
      have hc' : by_ s k = c := by rw [hc, by_at s k hlt]
      have HC := Lib.hid hc'
      have D := Lib.hid (fun w => dig43 c w)
      rw [hc] at D
      cases hd : digB c with
      | true =>
        have HD := Lib.hid hd
        rw [hc] at hd
        clear hc hc'
        go_wp2_with (go_at_call 43; refine (D.out _).mono ?_; rintro e w' ⟨rfl, rfl⟩)
        go_round
        case rel => exact ⟨k + 1, by omega, by go_num, Lib.hid (fun j hj => by
          by_cases e : j = k
          · rw [e, HC.out]; exact HD.out
          · exact H.out j (by omega))⟩
        case measure => simp [intOf]; omega
      | false =>
        have HD := Lib.hid hd
        rw [hc] at hd
        clear hc hc'
        go_wp2_with (go_at_call 43; refine (D.out _).mono ?_; rintro e w' ⟨rfl, rfl⟩)
        go_ret
        exact ⟨k, rfl, ⟨by omega, H.out, fun _ => by rw [HC.out]; exact HD.out⟩, rfl⟩
    · have h1 : ¬ (k : Int) < (s.size : Int) := by omega
      have h2 : decide ((k : Int) < (s.size : Int)) = false := by simpa using h1
      have h3 : decide (k < s.size) = false := by simpa using hlt
      go_wp2_with fail
      go_ret
      exact ⟨k, rfl, ⟨by omega, H.out, fun h => absurd h hlt⟩, rfl⟩
end Go.Proofs.Ytfldpaceebemhaa
