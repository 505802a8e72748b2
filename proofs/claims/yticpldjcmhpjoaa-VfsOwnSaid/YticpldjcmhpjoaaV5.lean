/-
  The walk of find.
-/
import Derived.Test.YticpldjcmhpjoaaV4
namespace Go.Proofs.Yticpldjcmhpjoaa
open Go.RowKit
set_option linter.unusedVariables false
set_option linter.unusedSimpArgs false

/-- what find answers -/
def findR (f : ByteArray → Option Value) (s : ByteArray) : Value × Int :=
  if isB s then (match f s with | some v => (v, 0) | none => (.slice none 0 0, 5)) else (.slice none 0 0, 1)
theorem find_any (s : ByteArray) (fb mb n : Nat) (f : ByteArray → Option Value) (w : World) (h2 : w.cell? ⟨fb, 2, none⟩ = some (.map (some mb))) (hm : MapV w mb n f) :
    Calls Try.prog 33 #[.pointer (some ⟨fb, 0, none⟩), .string s] w (OnlyP (.tuple #[(findR f s).1, .int .i64 (findR f s).2]) w) := by
  have IS := Lib.hid (isName_any s)
  obtain ⟨R, hR⟩ : ∃ R, R = findR f s := ⟨_, rfl⟩
  rw [← hR]
  unfold findR at hR
  cases hb : isB s with
  | false =>
    rw [hb] at IS hR
    have HR := Lib.hid hR
    clear hm hR hb
    go_enter Try.func33, Try.ntmps33
    go_wp2_with fail
    refine (IS.out _).mono ?_
    rintro e w2 ⟨rfl, rfl⟩
    go_wp2
    refine bodyPost_ret (v := .tuple #[.slice none 0 0, .int .i64 1]) (by simp [results, Try.results33, go_sem]) rfl ?_
    exact ⟨by rw [HR.out]; rfl, Below.refl _ _⟩
  | true =>
    have hs : s.size ≤ maxLen := by
      unfold isB at hb
      simp at hb
      unfold maxLen
      omega
    have LK := mapV_look hm s hs
    rw [hb] at IS hR
    simp only [if_true] at hR
    cases hf : f s with
    | none =>
      rw [hf] at LK hR
      have HR := Lib.hid hR
      simp only [Option.getD_none, Option.isSome_none] at LK
      clear hm hR hb hf hs
      go_enter Try.func33, Try.ntmps33
      go_wp2_with fail
      refine (IS.out _).mono ?_
      rintro e w2 ⟨rfl, rfl⟩
      go_wp2
      refine bodyPost_ret (v := .tuple #[.slice none 0 0, .int .i64 5]) (by simp [results, Try.results33, go_sem]) rfl ?_
      exact ⟨by rw [HR.out], Below.refl _ _⟩
    | some v =>
      rw [hf] at LK hR
      have HR := Lib.hid hR
      simp only [Option.getD_some, Option.isSome_some] at LK
      clear hm hR hb hf hs
      go_enter Try.func33, Try.ntmps33
      go_wp2_with fail
      refine (IS.out _).mono ?_
      rintro e w2 ⟨rfl, rfl⟩
      go_wp2
      refine bodyPost_ret (v := .tuple #[v, .int .i64 0]) (by simp [results, Try.results33, go_sem]) rfl ?_
      exact ⟨by rw [HR.out], Below.refl _ _⟩
end Go.Proofs.Yticpldjcmhpjoaa
