/-
  The walks of dec.Whole and graticuleref2.Whole at digits.
-/
import Derived.Test.YtfldpaceebemhaaL2
import Derived.Test.YtfldpaceebemhaaShelf
namespace Go.Proofs.Ytfldpaceebemhaa
open Go.RowKit

theorem trim_digits (s : ByteArray) (w : World) (hd : AllD s) : Calls Try.prog 44 #[.string s, .string ⟨#[45]⟩] w fun e w' => e = .returned (.string s) ∧ w = w' := by
  refine (Try.strings_TrimPrefix s ⟨#[45]⟩ w).mono ?_
  rintro e w' ⟨rfl, rfl⟩
  refine ⟨?_, rfl⟩
  have e : Lib.trimPrefix s.data.toList ([45] : List UInt8) = s.data.toList := by
    have hne : Lib.hasPrefix s.data.toList ([45] : List UInt8) = false := by
      cases h : s.data.toList with
      | nil => rfl
      | cons a l =>
        have hsz : 0 < s.size := by
          have : s.data.toList.length = s.size := Array.length_toList
          rw [h] at this; simp at this; omega
        have := hd 0 hsz
        unfold by_ at this
        rw [h] at this
        have h48 : 48 ≤ a.toNat := (digB_true.mp this).1
        have : ¬ (45 : UInt8) = a := by rintro rfl; exact absurd h48 (by decide)
        simp [Lib.hasPrefix, List.isPrefixOf, this]
    simp [Lib.trimPrefix, hne]
  show Ending.returned (.string ⟨(Lib.trimPrefix s.data.toList [45]).toArray⟩) = _
  rw [e]

/-- a whole number of digits: its value, and whether it may be -/
def whP (s : ByteArray) : Int × Bool := if s.size = 0 then (0, false) else numP s
theorem whole32 (s : ByteArray) (w : World) (hs : s.size ≤ maxLen) (hd : AllD s) : Calls Try.prog 32 #[.string s] w fun e w' => e = .returned (.tuple #[.int .i64 (whP s).1, .bool (whP s).2]) ∧ w = w' := by
  have TR := Lib.hid (fun w => trim_digits s w hd)
  have AR := Lib.hid (fun w => areDigits_any s w hs hd)
  have NU := Lib.hid (fun w => number_any s w hs hd)
  unfold maxLen at hs
  clear hd
  by_cases h0 : 0 < s.size
  · have hp : whP s = numP s := by unfold whP; rw [if_neg (by omega)]
    rw [hp]
    obtain ⟨v, hv⟩ : ∃ v, v = (numP s).1 := ⟨_, rfl⟩
    obtain ⟨b, hb⟩ : ∃ b, b = (numP s).2 := ⟨_, rfl⟩
    rw [← hv, ← hb] at NU ⊢
    rw [show decide (0 < s.size) = true from by simpa using h0] at AR
    clear hp hv hb
    go_enter Try.func32, Try.ntmps32
    go_wp2_with (first | (go_at_call 44; refine (TR.out _).mono ?_; rintro e w' ⟨rfl, rfl⟩) | (go_at_call 45; refine (AR.out _).mono ?_; rintro e w' ⟨rfl, rfl⟩) | (go_at_call 46; refine (NU.out _).mono ?_; rintro e w' ⟨rfl, rfl⟩))
    go_ret2
    exact ⟨rfl, rfl⟩
  · have hp : whP s = (0, false) := by unfold whP; rw [if_pos (by omega)]
    rw [hp]
    rw [show decide (0 < s.size) = false from by simpa using h0] at AR
    clear hp
    go_enter Try.func32, Try.ntmps32
    go_wp2_with (first | (go_at_call 44; refine (TR.out _).mono ?_; rintro e w' ⟨rfl, rfl⟩) | (go_at_call 45; refine (AR.out _).mono ?_; rintro e w' ⟨rfl, rfl⟩))
    go_ret2
    exact ⟨rfl, rfl⟩

theorem valK_pow (t : ByteArray) (h0 : 49 ≤ by_ t 0) : ∀ k, 10 ^ k ≤ valK t (k + 1)
  | 0 => by simp [valK]; omega
  | k + 1 => by
    have := valK_pow t h0 k
    rw [valK, Nat.pow_succ]; omega
theorem strip_big {s t : ByteArray} (h : Strip s t) (h1 : 1 < t.size → by_ t 0 ≠ 48) (h2 : 19 < t.size) : numP s = (0, false) := by
  have d := (digB_true.mp (h.1 0 h.2.2.1)).1
  have := valK_pow t (by have := h1 (by omega); omega) 19
  have h3 := valK_le t (19 + 1) t.size (by omega)
  unfold numP
  rw [if_pos]
  rw [← h.2.1]
  omega
theorem whole36 (s : ByteArray) (w : World) (hs : s.size ≤ maxLen) (hd : AllD s) : Calls Try.prog 36 #[.string s] w fun e w' => e = .returned (.tuple #[.int .i64 (whP s).1, .bool (whP s).2]) ∧ w = w' := by
  have AL := Lib.hid (fun w => all_any s w hs hd)
  have ST := Lib.hid (fun w => strip_any s w hs hd)
  unfold maxLen at hs
  by_cases h0 : 0 < s.size
  · have hp : whP s = numP s := by unfold whP; rw [if_neg (by omega)]
    rw [hp]
    obtain ⟨c, hc⟩ : ∃ c, c = by_ s 0 := ⟨_, rfl⟩
    have hc' : s[0].toNat = c := by rw [hc, by_at s 0 h0]
    have hd0 := (digB_true.mp (hd 0 h0)).1
    rw [← hc] at hd0
    have e1 : ((c : Int) == 45) = false := by simp; omega
    have e0 : s.toList.isEmpty = false := by have := emptyB s; rw [show decide (0 < s.size) = true from by simpa using h0] at this; simpa using this
    rw [show decide (0 < s.size) = true from by simpa using h0] at AL
    clear hp hc hd
    go_enter Try.func36, Try.ntmps36
    go_wp2_with (go_at_call 48; refine (AL.out _).mono ?_; rintro e w' ⟨rfl, rfl⟩)
    refine (ST.out _ h0).mono ?_
    rintro e w' ⟨t, rfl, hst, rfl⟩
    have HS := Lib.hid hst
    have hts := hst.1.2.2.2
    clear hst
    by_cases h19 : 19 < t.size
    · have HB := Lib.hid (strip_big HS.out.1 HS.out.2 h19)
      have h19' : (19 : Int) < (t.size : Int) := by omega
      go_wp2_with fail
      go_ret2
      rw [HB.out]
      exact ⟨rfl, rfl⟩
    · have h19' : ¬ (19 : Int) < (t.size : Int) := by omega
      have HP := Lib.hid (show numP s = numP t from by unfold numP; rw [HS.out.1.2.1])
      go_wp2_with fail
      go_loop [5, 6] (fun n i => ∃ k : Nat, k ≤ t.size ∧ i = .int .i64 k ∧ n = .int .i64 (valK t k : Nat) ∧ valK t k ≤ 4611686018427387904) (fun _ i => t.size - (intOf i).toNat)
      case atStart => exact ⟨0, by omega, rfl, rfl, by simp [valK]⟩
      case round =>
        obtain ⟨k, hk, rfl, rfl, hv⟩ := hrel
        have k0 : (0 : Int) ≤ (k : Int) := by omega
        by_cases hlt : k < t.size
        · have h1 : (k : Int) < (t.size : Int) := by omega
          obtain ⟨d1, d2⟩ := digB_true.mp (HS.out.1.1 k hlt)
          obtain ⟨v, hvv⟩ : ∃ v, v = valK t k := ⟨_, rfl⟩
          obtain ⟨c5, hc⟩ : ∃ c, c = by_ t k := ⟨_, rfl⟩
          have hc5 : t[k].toNat = c5 := by rw [hc, by_at t k hlt]
          have hsucc : valK t (k + 1) = v * 10 + (c5 - 48) := by rw [hvv, hc]; rfl
          have HSU := Lib.hid hsucc
          have HV := Lib.hid hvv
          rw [← hvv] at hv ⊢
          rw [← hc] at d1 d2
          clear hsucc hvv hc
          have b1 : (48 : Int) ≤ (c5 : Int) := by omega
          have b2 : (c5 : Int) ≤ 57 := by omega
          have b3 : (0 : Int) ≤ (v : Int) := by omega
          have b4 : (v : Int) ≤ 4611686018427387904 := by omega
          by_cases ho : 4611686018427387904 < v * 10 + (c5 - 48)
          · have ho1 : (4611686018427387904 - ((c5 : Int) - 48)) / 10 < (v : Int) := by omega
            have HB := Lib.hid (numP_big (s := t) (k + 1) (by omega) (by rw [HSU.out]; exact ho))
            go_wp2_with fail
            go_ret2
            rw [HP.out, HB.out]
            exact ⟨rfl, rfl⟩
          · have ho1 : ¬ (4611686018427387904 - ((c5 : Int) - 48)) / 10 < (v : Int) := by omega
            go_wp2_with fail
            go_round
            case rel => exact ⟨k + 1, by omega, by go_num, by rw [HSU.out]; congr 1; omega, by rw [HSU.out]; omega⟩
            case measure => simp [intOf]; omega
        · have h1 : ¬ (k : Int) < (t.size : Int) := by omega
          obtain rfl : k = t.size := by omega
          have HV := Lib.hid hv
          clear hv
          go_wp2_with fail
          go_ret2
          rw [HP.out, numP_small HV.out]
          exact ⟨rfl, rfl⟩
  · have hp : whP s = (0, false) := by unfold whP; rw [if_pos (by omega)]
    rw [hp]
    rw [show decide (0 < s.size) = false from by simpa using h0] at AL
    have e0 : s.toList.isEmpty = true := by have := emptyB s; rw [show decide (0 < s.size) = false from by simpa using h0] at this; simpa using this
    clear hp hd
    go_enter Try.func36, Try.ntmps36
    go_wp2_with (go_at_call 48; refine (AL.out _).mono ?_; rintro e w' ⟨rfl, rfl⟩)
    go_ret2
    exact ⟨rfl, rfl⟩
end Go.Proofs.Ytfldpaceebemhaa
