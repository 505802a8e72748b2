/-
  A nil FS.
-/
import Derived.Test.YticpldjcmhpjoaaV1
namespace Go.Proofs.Yticpldjcmhpjoaa
open Go.RowKit
set_option linter.unusedVariables false
set_option linter.unusedSimpArgs false

/-- nothing but draws -/
def OnlyP (v : Value) (w : World) (e : Ending) (w' : World) : Prop := e = .returned v ∧ Below w.heap.size w w'
theorem find_nil (s : ByteArray) (w : World) : Calls Try.prog 33 #[.pointer none, .string s] w (OnlyP (.tuple #[.slice none 0 0, .int .i64 1]) w) := by
  go_enter Try.func33, Try.ntmps33
  go_wp2
  refine bodyPost_ret (v := .tuple #[.slice none 0 0, .int .i64 1]) (by simp [results, Try.results33, go_sem]) rfl ?_
  exact ⟨rfl, Below.refl _ _⟩
theorem read_nil (s : ByteArray) (at_ n : Int) (w : World) : Calls Try.prog 14 #[.pointer none, .string s, .int .i64 at_, .int .i64 n] w (OnlyP (.tuple #[.slice none 0 0, .int .i64 1]) w) := by
  have FN := Lib.hid (find_nil s)
  go_enter Try.func14, Try.ntmps14
  go_wp2_with fail
  refine (FN.out _).mono ?_
  rintro e w2 ⟨rfl, g2⟩
  have G2 := Lib.hid g2
  clear g2
  go_wp2
  refine bodyPost_ret (v := .tuple #[.slice none 0 0, .int .i64 1]) (by simp [results, Try.results14, go_sem]) rfl ?_
  exact ⟨rfl, G2.out⟩
theorem size_nil (s : ByteArray) (w : World) : Calls Try.prog 25 #[.pointer none, .string s] w (OnlyP (.tuple #[.int .i64 0, .int .i64 1]) w) := by
  have FN := Lib.hid (find_nil s)
  go_enter Try.func25, Try.ntmps25
  go_wp2_with fail
  refine (FN.out _).mono ?_
  rintro e w2 ⟨rfl, g2⟩
  have G2 := Lib.hid g2
  clear g2
  go_wp2
  refine bodyPost_ret (v := .tuple #[.int .i64 0, .int .i64 1]) (by simp [results, Try.results25, go_sem]) rfl ?_
  exact ⟨rfl, G2.out⟩
theorem sync_nil (w : World) : Calls Try.prog 22 #[.pointer none] w (OnlyP (.tuple #[]) w) := by
  go_enter Try.func22, Try.ntmps22
  go_wp2
  go_end0
  exact ⟨rfl, Below.refl _ _⟩
theorem crash_nil (n m : Int) (w : World) : Calls Try.prog 24 #[.pointer none, .int .i64 n, .int .i64 m] w (OnlyP (.tuple #[]) w) := by
  go_enter Try.func24, Try.ntmps24
  go_wp2
  go_end0
  exact ⟨rfl, Below.refl _ _⟩
theorem create_nil (s : ByteArray) (a : Option Addr) (n c : Nat) (w : World) : Calls Try.prog 10 #[.pointer none, .string s, .slice a n c] w (OnlyP (.int .i64 1) w) := by
  go_enter Try.func10, Try.ntmps10
  go_wp2
  go_ret
  exact ⟨rfl, Below.refl _ _⟩
theorem remove_nil (s : ByteArray) (w : World) : Calls Try.prog 26 #[.pointer none, .string s] w (OnlyP (.int .i64 1) w) := by
  have FN := Lib.hid (find_nil s)
  go_enter Try.func26, Try.ntmps26
  go_wp2_with fail
  refine (FN.out _).mono ?_
  rintro e w2 ⟨rfl, g2⟩
  have G2 := Lib.hid g2
  clear g2
  go_wp2
  go_ret
  exact ⟨rfl, G2.out⟩
theorem write_nil (s : ByteArray) (at_ : Int) (a : Option Addr) (n c : Nat) (w : World) : Calls Try.prog 11 #[.pointer none, .string s, .int .i64 at_, .slice a n c] w (OnlyP (.int .i64 1) w) := by
  have FN := Lib.hid (find_nil s)
  go_enter Try.func11, Try.ntmps11
  go_wp2_with fail
  refine (FN.out _).mono ?_
  rintro e w2 ⟨rfl, g2⟩
  have G2 := Lib.hid g2
  clear g2
  go_wp2
  go_ret
  exact ⟨rfl, G2.out⟩
theorem list_nil (w : World) : Calls Try.prog 27 #[.pointer none] w (OnlyP (.slice none 0 0) w) := by
  go_enter Try.func27, Try.ntmps27
  go_wp2
  go_ret
  exact ⟨rfl, Below.refl _ _⟩
theorem pending_nil (w : World) : Calls Try.prog 28 #[.pointer none] w (OnlyP (.int .i64 0) w) := by
  go_enter Try.func28, Try.ntmps28
  go_wp2
  go_ret
  exact ⟨rfl, Below.refl _ _⟩
theorem used_nil (w : World) : Calls Try.prog 20 #[.pointer none] w (OnlyP (.int .i64 0) w) := by
  go_enter Try.func20, Try.ntmps20
  go_wp2
  go_ret
  exact ⟨rfl, Below.refl _ _⟩
end Go.Proofs.Yticpldjcmhpjoaa
