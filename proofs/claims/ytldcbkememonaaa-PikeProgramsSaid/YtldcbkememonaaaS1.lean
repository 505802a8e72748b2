/-
  The walks of word, special, more, bad (graticuleref11).
-/
import Derived.Test.YtldcbkememonaaaRx
import Derived.Test.YtldcbkememonaaaProg
import Derived.Test.YtldcbkememonaaaBase
import Derived.WalkLawsBesides
import Derived.WalkSpells
import Derived.Lib.Hide
import Derived.Deep.QuietTactic
import Derived.BigQuiet
namespace Go.Proofs.Ytldcbkememonaaa
open Go.RowKit
set_option linter.unusedVariables false
set_option linter.unusedSimpArgs false

theorem ret_bool {a b : Bool} (h : a = b) : Ending.returned (.bool a) = .returned (.bool b) := by rw [h]
theorem ret_int {k : IntKind} {a b : Int} (h : a = b) : Ending.returned (.int k a) = .returned (.int k b) := by rw [h]

theorem by_at (s : ByteArray) (p : Nat) (h : p < s.size) : by_ s p = s[p].toNat := by
  have h' : p < s.data.toList.length := by rw [Array.length_toList]; exact h
  unfold by_
  rw [List.getD_eq_getElem?_getD, List.getElem?_eq_getElem h']
  rfl
theorem cast_beq (a b : Nat) : ((a : Int) == (b : Int)) = (a == b) := by
  rw [Bool.eq_iff_iff]; simp; omega

theorem word_any (c : Nat) (hc : c < 256) (w : World) : Calls Try.prog 64 #[.int .u8 c] w fun e w' => e = .returned (.bool (wordB c)) ∧ w = w' := by
  by_cases a1 : 97 ≤ c <;> by_cases a2 : c ≤ 122 <;> by_cases a3 : 65 ≤ c <;> by_cases a4 : c ≤ 90 <;> by_cases a5 : 48 ≤ c <;> by_cases a6 : c ≤ 57
  all_goals first
    | omega
    | (simp only [wordB, a1, a2, a3, a4, a5, a6]
       go_enter Try.func64, Try.ntmps64
       go_wp2
       go_ret
       exact ⟨ret_bool (by first | (simp; done) | (simp; omega)), rfl⟩)

theorem bad_no (r : Nat) (e er : Int) (w : World) (h0 : w.cell? ⟨r, 3, none⟩ = some (.int .i64 er)) (h : ¬ er = 0) : Calls Try.prog 45 #[.pointer (some ⟨r, 0, none⟩), .int .i64 e] w fun en w' => en = .returned (.tuple #[]) ∧ w = w' := by
  have h' : (er == 0) = false := by simpa using h
  clear h
  go_enter Try.func45, Try.ntmps45
  go_wp2
  go_end0
  exact ⟨rfl, rfl⟩
theorem bad_yes (r : Nat) (e : Int) (w : World) (h0 : w.cell? ⟨r, 3, none⟩ = some (.int .i64 0)) (hf : w.frozen? ⟨r, 3, none⟩ = false) : Calls Try.prog 45 #[.pointer (some ⟨r, 0, none⟩), .int .i64 e] w fun en w' => en = .returned (.tuple #[]) ∧ w' = w.setCell ⟨r, 3, none⟩ (.int .i64 e) := by
  go_enter Try.func45, Try.ntmps45
  go_wp2
  go_end0
  exact ⟨rfl, rfl⟩
theorem more_end (r : Nat) (c p : Nat) (s : ByteArray) (hp : ¬ p < s.size) (w : World) (h0 : w.cell? ⟨r, 0, none⟩ = some (.string s)) (h1 : w.cell? ⟨r, 1, none⟩ = some (.int .i64 p)) :
    Calls Try.prog 49 #[.pointer (some ⟨r, 0, none⟩), .int .u8 c] w fun e w' => e = .returned (.bool false) ∧ ∃ n, w' = w.drewN n := by
  have hp' : decide (p < s.size) = false := decide_eq_false hp
  clear hp
  go_enter Try.func49, Try.ntmps49
  go_wp2
  go_quiet (fail)
  go_wp2
  go_ret
  exact ⟨rfl, _, rfl⟩
theorem more_in (r : Nat) (c p : Nat) (s : ByteArray) (hp : p < s.size) (w : World) (h0 : w.cell? ⟨r, 0, none⟩ = some (.string s)) (h1 : w.cell? ⟨r, 1, none⟩ = some (.int .i64 p)) :
    Calls Try.prog 49 #[.pointer (some ⟨r, 0, none⟩), .int .u8 c] w fun e w' => e = .returned (.bool (by_ s p == c)) ∧ ∃ n, w' = w.drewN n := by
  have hp' : decide ((p : Int) < (s.size : Int)) = true := by simp; omega
  have h2 : (p : Int) < (s.size : Int) := by omega
  have h3 : (0 : Int) ≤ (p : Int) := by omega
  go_enter Try.func49, Try.ntmps49
  go_wp2
  go_quiet (fail)
  go_wp2
  go_ret
  exact ⟨ret_bool (by rw [by_at s p hp, cast_beq]), _, rfl⟩

def specS : ByteArray := ⟨#[92, 94, 36, 46, 124, 63, 42, 43, 40, 41, 91]⟩
theorem specS_yes (c k : Nat) (hk : k < specS.size) (h : by_ specS k = c) : specB c = true := by
  subst h
  have : k < 11 := hk
  rcases (show k = 0 ∨ k = 1 ∨ k = 2 ∨ k = 3 ∨ k = 4 ∨ k = 5 ∨ k = 6 ∨ k = 7 ∨ k = 8 ∨ k = 9 ∨ k = 10 from by omega) with rfl | rfl | rfl | rfl | rfl | rfl | rfl | rfl | rfl | rfl | rfl <;> rfl
theorem specS_no (c : Nat) (h : ∀ k, k < 11 → by_ specS k ≠ c) : specB c = false := by
  have h0 : 92 ≠ c := h 0 (by omega)
  have h1 : 94 ≠ c := h 1 (by omega)
  have h2 : 36 ≠ c := h 2 (by omega)
  have h3 : 46 ≠ c := h 3 (by omega)
  have h4 : 124 ≠ c := h 4 (by omega)
  have h5 : 63 ≠ c := h 5 (by omega)
  have h6 : 42 ≠ c := h 6 (by omega)
  have h7 : 43 ≠ c := h 7 (by omega)
  have h8 : 40 ≠ c := h 8 (by omega)
  have h9 : 41 ≠ c := h 9 (by omega)
  have h10 : 91 ≠ c := h 10 (by omega)
  simp [specB]
  omega
theorem spec_any (c : Nat) (hc : c < 256) (w : World) : Calls Try.prog 60 #[.int .u8 c] w fun e w' => e = .returned (.bool (specB c)) ∧ w = w' := by
  obtain ⟨S, hS⟩ : ∃ S, S = specS := ⟨_, rfl⟩
  have hsz : S.size = 11 := by rw [hS]; rfl
  have HZ := Lib.hid hsz
  have HS := Lib.hid hS
  have hS' : S = ⟨#[92, 94, 36, 46, 124, 63, 42, 43, 40, 41, 91]⟩ := hS
  have HS' := Lib.hid hS'
  clear hsz hS hS'
  go_enter Try.func60, Try.ntmps60
  go_wp2
  rw [← HS'.out]
  go_loop [4] (fun i => ∃ k : Nat, k ≤ 11 ∧ i = .int .i64 k ∧ Hid (∀ j, j < k → by_ S j ≠ c)) (fun i => 11 - (intOf i).toNat)
  case atStart => exact ⟨0, by omega, rfl, Lib.hid (fun j hj => absurd hj (by omega))⟩
  case round =>
    obtain ⟨k, hk, rfl, H⟩ := hrel
    by_cases hlt : k < S.size
    · have h1 : (k : Int) < (S.size : Int) := by omega
      have h0 : (0 : Int) ≤ (k : Int) := by omega
      by_cases hb : by_ S k = c
      · have hb' : ((S[k].toNat : Int) == (c : Int)) = true := by rw [cast_beq, ← by_at S k hlt]; simpa using hb
        have HB := Lib.hid hb
        clear hb
        go_wp2
        go_ret
        exact ⟨ret_bool (specS_yes c k (by rw [← HS.out]; exact hlt) (by rw [← HS.out]; exact HB.out)).symm, rfl⟩
      · have hb' : ((S[k].toNat : Int) == (c : Int)) = false := by rw [cast_beq, ← by_at S k hlt]; simpa using hb
        have HB := Lib.hid hb
        clear hb
        have hk10 : k ≤ 10 := by have := HZ.out; omega
        go_wp2
        go_round
        case rel => exact ⟨k + 1, by omega, by go_num, Lib.hid (fun j hj => by
          by_cases e : j = k
          · rw [e]; exact HB.out
          · exact H.out j (by omega))⟩
        case measure => simp [intOf]; omega
    · have h1 : ¬ (k : Int) < (S.size : Int) := by omega
      have hk11 : k = 11 := by have := HZ.out; omega
      have HK := Lib.hid hk11
      clear hk11
      go_wp2
      go_ret
      exact ⟨ret_bool (specS_no c (fun j hj => by rw [← HS.out]; exact H.out j (by rw [HK.out]; exact hj))).symm, rfl⟩
end Go.Proofs.Ytldcbkememonaaa
