/-
  The walk of Size.
-/
import Derived.Test.YticpldjcmhpjoaaV5
namespace Go.Proofs.Yticpldjcmhpjoaa
open Go.RowKit
set_option linter.unusedVariables false
set_option linter.unusedSimpArgs false

theorem size_any (s : ByteArray) (fb mb n : Nat) (f : ByteArray → Option Value) (w : World) (h2 : w.cell? ⟨fb, 2, none⟩ = some (.map (some mb))) (hm : MapV w mb n f) (a : Option Addr) (k c : Nat) (e : Int) (hR : findR f s = (.slice a k c, e)) :
    Calls Try.prog 25 #[.pointer (some ⟨fb, 0, none⟩), .string s] w (OnlyP (.tuple #[.int .i64 k, .int .i64 e]) w) := by
  have FN := find_any s fb mb n f w h2 hm
  rw [hR] at FN
  have FN := Lib.hid FN
  clear hm hR h2
  go_enter Try.func25, Try.ntmps25
  go_wp2_with fail
  refine FN.out.mono ?_
  rintro _ w2 ⟨rfl, g2⟩
  have G2 := Lib.hid g2
  clear g2
  go_wp2
  refine bodyPost_ret (v := .tuple #[.int .i64 k, .int .i64 e]) (by simp [results, Try.results25, go_sem]) rfl ?_
  exact ⟨rfl, G2.out⟩
end Go.Proofs.Yticpldjcmhpjoaa
