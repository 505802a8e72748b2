/-
  The walk of total.
-/
import Derived.Test.YticpldjcmhpjoaaV2
import Derived.Lib.SlParts
namespace Go.Proofs.Yticpldjcmhpjoaa
open Go.RowKit
set_option linter.unusedVariables false
set_option linter.unusedSimpArgs false

/-- how many bytes rows have; more than most: one more -/
def totF (most : Int) : Int → List (List UInt8) → Int
  | n, [] => n
  | n, l :: r => if most - n < (l.length : Int) then most + 1 else totF most (n + l.length) r
theorem add_plain (b o i : Nat) : (⟨b, o, none⟩ : Addr).add i = ⟨b, o + i, none⟩ := by unfold Addr.add; split <;> simp_all
theorem total_any (most : Int) (hm : 0 ≤ most ∧ most ≤ 1073741824) (b o N c : Nat) (a : Option Addr) (vs : List Value) (ls : List (List UInt8)) (w : World) (hn : ls.length = N) (hN9 : N ≤ 1000000) (ha : 0 < N → a = some ⟨b, o, none⟩) (hP : Lib.PartsAt w ⟨b, o, none⟩ vs ls) :
    Calls Try.prog 30 #[.int .i64 most, .slice a N c] w (OnlyP (.int .i64 (totF most 0 ls)) w) := by
  obtain ⟨T, hT⟩ : ∃ T, T = totF most 0 ls := ⟨_, rfl⟩
  rw [← hT]
  have HT := Lib.hid hT
  have HP := Lib.hid hP
  have HA := Lib.hid ha
  have HN := Lib.hid hn
  have k0 := hm.1
  have k1 := hm.2
  clear hT hP ha hn hm
  go_enter Try.func30, Try.ntmps30
  go_wp2
  go_loop [5, 10] (fun n i => ∃ (j : Nat) (m : Int), j ≤ N ∧ n = .int .i64 m ∧ i = .int .i64 j ∧ 0 ≤ m ∧ m ≤ most ∧ Hid (T = totF most m (ls.drop j))) (fun _ i => N - (intOf i).toNat)
  case atStart => exact ⟨0, 0, by omega, rfl, rfl, by omega, by omega, HT⟩
  case round =>
    obtain ⟨j, m, hj, rfl, rfl, m0, m1, HJ⟩ := hrel
    have j0 : (0 : Int) ≤ (j : Int) := by omega
    by_cases hlt : j < N
    · have j1 : (j : Int) < (N : Int) := by omega
      obtain ⟨p, cap, l, hl, hc, _, _⟩ := HP.out.get j (by rw [HN.out]; exact hlt)
      have e : (⟨b, o, none⟩ : Addr).add j = ⟨b, o + j, none⟩ := add_plain b o j
      have hd : ls.drop j = l :: ls.drop (j + 1) := by
        obtain ⟨h1, h2⟩ := List.getElem?_eq_some_iff.1 hl
        rw [← h2]
        exact List.drop_eq_getElem_cons h1
      have hTJ := HJ.out
      rw [hd] at hTJ
      unfold totF at hTJ
      have HTJ := Lib.hid hTJ
      obtain ⟨k, hk⟩ : ∃ k, k = l.length := ⟨_, rfl⟩
      rw [e, ← hk] at hc
      have HK := Lib.hid hk
      have haa := HA.out (by omega)
      subst haa
      clear hl hd hTJ hk e
      by_cases hg : most - m < (k : Int)
      · go_wp2
        go_ret
        refine ⟨?_, Below.refl _ _⟩
        rw [HTJ.out, if_pos (by rw [← HK.out]; exact hg)]
        rfl
      · go_wp2
        go_round
        case rel =>
          refine ⟨j + 1, m + k, by omega, rfl, ?_, ?_, ?_, ?_⟩
          · go_num
          · omega
          · omega
          · exact Lib.hid (by rw [HTJ.out, if_neg (by rw [← HK.out]; exact hg), HK.out])
        case measure => simp [intOf]; omega
    · have j1 : ¬ (j : Int) < (N : Int) := by omega
      have hTe : T = m := by
        rw [HJ.out, List.drop_eq_nil_of_le (by rw [HN.out]; omega)]
        rfl
      subst hTe
      go_wp2
      go_ret
      exact ⟨rfl, Below.refl _ _⟩
end Go.Proofs.Yticpldjcmhpjoaa
