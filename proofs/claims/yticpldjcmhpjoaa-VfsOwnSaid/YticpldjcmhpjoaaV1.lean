/-
  The walks of isName (vfs), is (graticuleref3).
-/
import Derived.Test.YticpldjcmhpjoaaPhi
import Derived.Test.YticpldjcmhpjoaaProg
import Derived.Test.YticpldjcmhpjoaaBase
import Derived.WalkLawsBesides
import Derived.WalkSpells
import Derived.Lib.Hide
import Derived.Deep.QuietTactic
import Derived.BigQuiet
namespace Go.Proofs.Yticpldjcmhpjoaa
open Go.RowKit
set_option linter.unusedVariables false
set_option linter.unusedSimpArgs false

/-- is it a name? -/
def isB (s : ByteArray) : Bool := decide (1 ≤ s.size) && decide (s.size ≤ 255)
theorem ret_bool {a b : Bool} (h : a = b) : Ending.returned (.bool a) = .returned (.bool b) := by rw [h]
theorem isName_any (s : ByteArray) (w : World) : Calls Try.prog 29 #[.string s] w fun e w' => e = .returned (.bool (isB s)) ∧ w' = w := by
  unfold isB
  by_cases h1 : (1 : Int) ≤ (s.size : Int)
  · by_cases h2 : (s.size : Int) ≤ 255
    · go_enter Try.func29, Try.ntmps29
      go_wp2
      go_ret
      exact ⟨ret_bool (by simp; omega), rfl⟩
    · go_enter Try.func29, Try.ntmps29
      go_wp2
      go_ret
      exact ⟨ret_bool (by simp; omega), rfl⟩
  · go_enter Try.func29, Try.ntmps29
    go_wp2
    go_ret
    exact ⟨ret_bool (by simp; omega), rfl⟩
theorem is_any (s : ByteArray) (w : World) : Calls Try.prog 51 #[.string s] w fun e w' => e = .returned (.bool (isB s)) ∧ w' = w := by
  unfold isB
  by_cases h1 : (1 : Int) ≤ (s.size : Int)
  · by_cases h2 : (s.size : Int) ≤ 255
    · go_enter Try.func51, Try.ntmps51
      go_wp2
      go_ret
      exact ⟨ret_bool (by simp; omega), rfl⟩
    · go_enter Try.func51, Try.ntmps51
      go_wp2
      go_ret
      exact ⟨ret_bool (by simp; omega), rfl⟩
  · go_enter Try.func51, Try.ntmps51
    go_wp2
    go_ret
    exact ⟨ret_bool (by simp; omega), rfl⟩
end Go.Proofs.Yticpldjcmhpjoaa
