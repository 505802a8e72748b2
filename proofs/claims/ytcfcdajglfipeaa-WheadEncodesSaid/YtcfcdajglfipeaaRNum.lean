/-
  The walk of reader.number.
-/
import Derived.Test.YtcfcdajglfipeaaPref
namespace Go.Proofs.Ytcfcdajglfipeaa
open Go.RowKit

theorem rnum_no (r n c : Nat) (a : Option Addr) (bad : Bool) (w : World) (h0 : w.cell? ⟨r, 0, none⟩ = some (.slice a n c)) (h1 : w.cell? ⟨r, 1, none⟩ = some (.bool bad)) (hf : w.frozen? ⟨r, 1, none⟩ = false) (hn : n < 4) :
    Calls Try.prog 25 #[.pointer (some ⟨r, 0, none⟩)] w fun e w' => e = .returned (.int .i64 0) ∧ w' = w.setCell ⟨r, 1, none⟩ (.bool true) := by
  have hn' : (n : Int) < 4 := by omega
  clear hn
  go_enter Try.func25, Try.ntmps25
  go_wp2
  go_ret
  exact ⟨rfl, rfl⟩

/-- the number whose first j bytes are read -/
def pvn (f : Nat → Int) : Nat → Int
  | 0 => 0
  | j + 1 => pvn f j * 256 + f j
theorem pvn_in (f : Nat → Int) (hf : ∀ j, 0 ≤ f j ∧ f j ≤ 255) : ∀ j, j ≤ 4 → 0 ≤ pvn f j ∧ (j ≤ 3 → pvn f j ≤ 16777215)
  | 0, _ => ⟨Int.le_refl _, fun _ => by simp [pvn]⟩
  | 1, _ => by have := hf 0; simp only [pvn]; omega
  | 2, _ => by have := hf 0; have := hf 1; simp only [pvn]; omega
  | 3, _ => by have := hf 0; have := hf 1; have := hf 2; simp only [pvn]; omega
  | 4, _ => by have := hf 0; have := hf 1; have := hf 2; have := hf 3; simp only [pvn]; omega

set_option maxHeartbeats 1000000 in
theorem rnum_yes (r g o n c : Nat) (f : Nat → Int) (hf : ∀ j, 0 ≤ f j ∧ f j ≤ 255) (w : World) (h0 : w.cell? ⟨r, 0, none⟩ = some (.slice (some ⟨g, o, none⟩) n c)) (hfz : w.frozen? ⟨r, 0, none⟩ = false)
    (hn : 4 ≤ n) (hc : n ≤ c) (hx : ∀ j, j < 4 → w.cell? ⟨g, o + j, none⟩ = some (.int .u8 (f j))) :
    Calls Try.prog 25 #[.pointer (some ⟨r, 0, none⟩)] w fun e w' => e = .returned (.int .i64 (pvn f 4)) ∧ ∃ o', (4 < n → o' = o + 4) ∧ w' = w.setCell ⟨r, 0, none⟩ (.slice (some ⟨g, o', none⟩) (n - 4) (c - 4)) := by
  have q0 : ¬ (n : Int) < 4 := by omega
  have q1 : (4 : Int) ≤ (n : Int) := by omega
  have q2 : (4 : Int) ≤ (c : Int) := by omega
  have q3 : (n : Int) ≤ (c : Int) := by omega
  have HX := Lib.hid hx
  have HF := Lib.hid hf
  clear hx hf hn hc
  go_enter Try.func25, Try.ntmps25
  go_wp2
  go_loopw [3, 21] (fun t i wr => ∃ j : Nat, j ≤ 4 ∧ i = .int .i64 j ∧ t = .int .i64 (pvn f j) ∧ wr = w) (fun _ i _ => 4 - (intOf i).toNat)
  case atStart => exact ⟨0, by omega, rfl, rfl, rfl⟩
  case round =>
    obtain ⟨j, hj, rfl, rfl, rfl⟩ := hrel
    by_cases hlt : j < 4
    · have cj := HX.out j hlt
      obtain ⟨p1, p2⟩ := pvn_in f HF.out j hj
      have p3 := p2 (by omega)
      obtain ⟨f1, f2⟩ := HF.out j
      obtain ⟨P, hP⟩ : ∃ P, P = pvn f j := ⟨_, rfl⟩
      obtain ⟨A, hA⟩ : ∃ A, A = f j := ⟨_, rfl⟩
      rw [← hP] at p1 p3 ⊢
      rw [← hA] at cj f1 f2
      have ho := or64 8 256 (P * 256) A rfl (by omega) f1 (by omega) (by omega) (by omega)
      have HE := Lib.hid (show P * 256 + A = pvn f (j + 1) from by rw [pvn, hP, hA])
      clear hP hA p2
      go_wp2
      go_roundw
      case rel => exact ⟨j + 1, by omega, by go_num, by rw [← HE.out], trivial⟩
      case measure => simp [intOf]; omega
    · obtain rfl : j = 4 := by omega
      go_wp2
      all_goals
        go_ret
        first
          | exact ⟨rfl, o + 4, fun _ => rfl, rfl⟩
          | exact ⟨rfl, o, fun _ => by omega, rfl⟩
end Go.Proofs.Ytcfcdajglfipeaa
