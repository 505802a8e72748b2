/-
  Digits as a number: the walks of dec.areDigits, dec.number, dec.Whole, graticuleref2.all, strip, Whole at digits.
-/
import Derived.Test.YtfldpaceebemhaaL1
namespace Go.Proofs.Ytfldpaceebemhaa
open Go.RowKit

/-- all bytes are digits -/
def AllD (s : ByteArray) : Prop := ∀ j, j < s.size → digB (by_ s j) = true
/-- what the first k digits say -/
def valK (s : ByteArray) : Nat → Nat
  | 0 => 0
  | k + 1 => valK s k * 10 + (by_ s k - 48)
theorem valK_le (s : ByteArray) (k j : Nat) (h : k ≤ j) : valK s k ≤ valK s j := by
  induction j with
  | zero => obtain rfl : k = 0 := by omega
            exact Nat.le_refl _
  | succ j ih =>
    rcases Nat.lt_or_ge k (j + 1) with h1 | h1
    · have := ih (by omega)
      simp only [valK]; omega
    · obtain rfl : k = j + 1 := by omega
      exact Nat.le_refl _
/-- a whole number: its value and whether it may be -/
def whV (s : ByteArray) : Nat := if s.size = 0 ∨ 4611686018427387904 < valK s s.size then 0 else valK s s.size
def whB (s : ByteArray) : Bool := !(decide (s.size = 0) || decide (4611686018427387904 < valK s s.size))

theorem emptyB (s : ByteArray) : (!s.toList.isEmpty) = decide (0 < s.size) := by
  rw [ByteArray.toList_eq, Bool.eq_iff_iff, decide_eq_true_iff]
  have : s.data.toList.length = s.size := Array.length_toList
  cases h : s.data.toList with
  | nil => rw [h] at this; simp only [List.length_nil] at this; rw [← this]; simp
  | cons a l => rw [h] at this; simp only [List.length_cons] at this; rw [← this]; simp

theorem ret_two {k : IntKind} {a b : Int} {p q : Bool} (h : a = b) (g : p = q) : Ending.returned (.tuple #[.int k a, .bool p]) = .returned (.tuple #[.int k b, .bool q]) := by rw [h, g]

theorem areDigits_any (s : ByteArray) (w : World) (hs : s.size ≤ maxLen) (hd : AllD s) : Calls Try.prog 45 #[.string s] w fun e w' => e = .returned (.bool (decide (0 < s.size))) ∧ w = w' := by
  unfold maxLen at hs
  have HD := Lib.hid hd
  clear hd
  go_enter Try.func45, Try.ntmps45
  go_wp2
  go_loop [6] (fun i => ∃ k : Nat, k ≤ s.size ∧ i = .int .i64 k) (fun i => s.size - (intOf i).toNat)
  case atStart => exact ⟨0, by omega, rfl⟩
  case round =>
    obtain ⟨k, hk, rfl⟩ := hrel
    have k0 : (0 : Int) ≤ (k : Int) := by omega
    by_cases hlt : k < s.size
    · have h1 : (k : Int) < (s.size : Int) := by omega
      have D := Lib.hid (show ∀ w, Calls Try.prog 64 #[.int .u8 s[k].toNat] w fun e w' => e = .returned (.bool true) ∧ w = w' from fun w => by
        have := dig64 s[k].toNat w
        rw [← by_at s k hlt, HD.out k hlt] at this
        rw [by_at s k hlt] at this
        exact this)
      go_wp2_with (go_at_call 64; refine (D.out _).mono ?_; rintro e w' ⟨rfl, rfl⟩)
      go_round
      case rel => exact ⟨k + 1, by omega, by go_num⟩
      case measure => simp [intOf]; omega
    · have h1 : ¬ (k : Int) < (s.size : Int) := by omega
      go_wp2_with fail
      go_ret
      exact ⟨ret_bool (emptyB s), rfl⟩

theorem all_any (s : ByteArray) (w : World) (hs : s.size ≤ maxLen) (hd : AllD s) : Calls Try.prog 48 #[.string s] w fun e w' => e = .returned (.bool (decide (0 < s.size))) ∧ w = w' := by
  unfold maxLen at hs
  have HD := Lib.hid hd
  clear hd
  go_enter Try.func48, Try.ntmps48
  go_wp2
  go_loop [3] (fun i => ∃ k : Nat, k ≤ s.size ∧ i = .int .i64 k) (fun i => s.size - (intOf i).toNat)
  case atStart => exact ⟨0, by omega, rfl⟩
  case round =>
    obtain ⟨k, hk, rfl⟩ := hrel
    have k0 : (0 : Int) ≤ (k : Int) := by omega
    by_cases hlt : k < s.size
    · have h1 : (k : Int) < (s.size : Int) := by omega
      have D := Lib.hid (show ∀ w, Calls Try.prog 65 #[.int .u8 s[k].toNat] w fun e w' => e = .returned (.bool true) ∧ w = w' from fun w => by
        have := dig65 s[k].toNat w
        rw [← by_at s k hlt, HD.out k hlt] at this
        rw [by_at s k hlt] at this
        exact this)
      go_wp2_with (go_at_call 65; refine (D.out _).mono ?_; rintro e w' ⟨rfl, rfl⟩)
      go_round
      case rel => exact ⟨k + 1, by omega, by go_num⟩
      case measure => simp [intOf]; omega
    · have h1 : ¬ (k : Int) < (s.size : Int) := by omega
      go_wp2_with fail
      go_ret
      exact ⟨ret_bool (by simp), rfl⟩

def numP (s : ByteArray) : Int × Bool := if 4611686018427387904 < valK s s.size then (0, false) else (((valK s s.size : Nat) : Int), true)
theorem numP_small {s : ByteArray} (h : valK s s.size ≤ 4611686018427387904) : numP s = (((valK s s.size : Nat) : Int), true) := by
  unfold numP; rw [if_neg (by omega)]
theorem numP_big {s : ByteArray} (k : Nat) (hk : k ≤ s.size) (h : 4611686018427387904 < valK s k) : numP s = (0, false) := by
  have := valK_le s k s.size hk
  unfold numP; rw [if_pos (by omega)]
theorem number_any (s : ByteArray) (w : World) (hs : s.size ≤ maxLen) (hd : AllD s) : Calls Try.prog 46 #[.string s] w fun e w' => e = .returned (.tuple #[.int .i64 (numP s).1, .bool (numP s).2]) ∧ w = w' := by
  unfold maxLen at hs
  have HD := Lib.hid hd
  clear hd
  go_enter Try.func46, Try.ntmps46
  go_wp2
  go_loop [4, 9] (fun n i => ∃ k : Nat, k ≤ s.size ∧ i = .int .i64 k ∧ n = .int .i64 (valK s k : Nat) ∧ valK s k ≤ 4611686018427387904) (fun _ i => s.size - (intOf i).toNat)
  case atStart => exact ⟨0, by omega, rfl, rfl, by simp [valK]⟩
  case round =>
    obtain ⟨k, hk, rfl, rfl, hv⟩ := hrel
    have k0 : (0 : Int) ≤ (k : Int) := by omega
    by_cases hlt : k < s.size
    · have h1 : (k : Int) < (s.size : Int) := by omega
      obtain ⟨d1, d2⟩ := digB_true.mp (HD.out k hlt)
      obtain ⟨v, hvv⟩ : ∃ v, v = valK s k := ⟨_, rfl⟩
      obtain ⟨c, hc⟩ : ∃ c, c = by_ s k := ⟨_, rfl⟩
      have hc' : s[k].toNat = c := by rw [hc, by_at s k hlt]
      have hsucc : valK s (k + 1) = v * 10 + (c - 48) := by rw [hvv, hc]; rfl
      have HS := Lib.hid hsucc
      have HV := Lib.hid hvv
      rw [← hvv] at hv ⊢
      rw [← hc] at d1 d2
      clear hsucc hvv hc
      have b1 : (48 : Int) ≤ (c : Int) := by omega
      have b2 : (c : Int) ≤ 57 := by omega
      have b3 : (0 : Int) ≤ (v : Int) := by omega
      have b4 : (v : Int) ≤ 4611686018427387904 := by omega
      by_cases ho : 4611686018427387904 < v * 10 + (c - 48)
      · have ho1 : (4611686018427387904 - ((c : Int) - 48)) / 10 < (v : Int) := by omega
        go_wp2_with fail
        go_ret2
        have e := numP_big (s := s) (k + 1) (by omega) (by rw [HS.out]; exact ho)
        rw [e]
        exact ⟨rfl, rfl⟩
      · have ho1 : ¬ (4611686018427387904 - ((c : Int) - 48)) / 10 < (v : Int) := by omega
        go_wp2_with fail
        go_round
        case rel => exact ⟨k + 1, by omega, by go_num, by rw [HS.out]; congr 1; omega, by rw [HS.out]; omega⟩
        case measure => simp [intOf]; omega
    · have h1 : ¬ (k : Int) < (s.size : Int) := by omega
      obtain rfl : k = s.size := by omega
      have HV := Lib.hid hv
      clear hv
      go_wp2_with fail
      go_ret2
      rw [numP_small HV.out]
      exact ⟨rfl, rfl⟩
theorem by_ext (t : ByteArray) (a b j : Nat) (h : j < b - a) : by_ (t.extract a b) j = by_ t (a + j) := by
  unfold by_
  rw [ByteArray.data_extract, Array.toList_extract, List.getD_eq_getElem?_getD, List.getD_eq_getElem?_getD, List.extract_eq_take_drop, List.getElem?_take_of_lt h, List.getElem?_drop]
theorem valK_shift (t : ByteArray) (h0 : by_ t 0 = 48) : ∀ k, k + 1 ≤ t.size → valK (t.extract 1 t.size) k = valK t (k + 1)
  | 0, _ => by simp [valK, h0]
  | k + 1, h => by
    rw [valK, valK_shift t h0 k (by omega), by_ext t 1 t.size k (by omega)]
    rw [show 1 + k = k + 1 from by omega]; rfl

/-- what 'strip' leaves -/
def Strip (s t : ByteArray) : Prop := AllD t ∧ valK t t.size = valK s s.size ∧ 0 < t.size ∧ t.size ≤ s.size
theorem Strip.next {s t : ByteArray} (h : Strip s t) (h0 : by_ t 0 = 48) (h1 : 1 < t.size) : Strip s (t.extract 1 t.size) := by
  obtain ⟨a, b, c, d⟩ := h
  have e : (t.extract 1 t.size).size = t.size - 1 := by rw [ByteArray.size_extract]; omega
  refine ⟨fun j hj => ?_, ?_, by omega, by omega⟩
  · rw [by_ext t 1 t.size j (by omega)]; exact a _ (by omega)
  · rw [e, valK_shift t h0 (t.size - 1) (by omega), show t.size - 1 + 1 = t.size from by omega, b]
theorem strip_any (s : ByteArray) (w : World) (hs : s.size ≤ maxLen) (hd : AllD s) (h0 : 0 < s.size) : Calls Try.prog 49 #[.string s] w fun e w' => ∃ t, e = .returned (.string t) ∧ (Strip s t ∧ (1 < t.size → by_ t 0 ≠ 48)) ∧ w = w' := by
  unfold maxLen at hs
  have H0 := Lib.hid (show Strip s s from ⟨hd, rfl, h0, Nat.le_refl _⟩)
  clear hd h0
  go_enter Try.func49, Try.ntmps49
  go_wp2
  go_loop [0] (fun v => ∃ t : ByteArray, v = .string t ∧ Hid (Strip s t)) (fun v => match v with | .string t => t.size | _ => 0)
  case atStart => exact ⟨s, rfl, H0⟩
  case round =>
    obtain ⟨t, rfl, H⟩ := hrel
    have hts := H.out.2.2.2
    have htz := H.out.2.2.1
    obtain ⟨c, hc⟩ : ∃ c, c = by_ t 0 := ⟨_, rfl⟩
    have hc' : t[0].toNat = c := by rw [hc, by_at t 0 htz]
    have HC := Lib.hid hc
    clear hc
    by_cases h1 : 1 < t.size
    · have k1 : (1 : Int) < (t.size : Int) := by omega
      have k2 : decide ((1 : Int) < (t.size : Int)) = true := by simpa using k1
      by_cases h48 : c = 48
      · have e1 : ((c : Int) == 48) = true := by simp; omega
        have HH := Lib.hid h48
        clear h48
        go_wp2_with fail
        go_round
        case rel => exact ⟨_, rfl, Lib.hid (H.out.next (by rw [← HC.out]; exact HH.out) h1)⟩
        case measure => simp [ByteArray.size_extract]; omega
      · have e1 : ((c : Int) == 48) = false := by simp; omega
        have HH := Lib.hid h48
        clear h48
        go_wp2_with fail
        go_ret
        exact ⟨t, rfl, ⟨H.out, fun _ => by rw [← HC.out]; exact HH.out⟩, rfl⟩
    · have k1 : ¬ (1 : Int) < (t.size : Int) := by omega
      have k2 : decide ((1 : Int) < (t.size : Int)) = false := by simpa using k1
      have k3 : decide (1 < t.size) = false := by simpa using h1
      go_wp2_with fail
      go_ret
      exact ⟨t, rfl, ⟨H.out, fun h => absurd h h1⟩, rfl⟩
end Go.Proofs.Ytfldpaceebemhaa
