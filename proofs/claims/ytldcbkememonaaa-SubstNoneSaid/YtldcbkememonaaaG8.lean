/-
  The walk of pike.Is.
-/
import Derived.Test.YtldcbkememonaaaG4
import Derived.Test.YtldcbkememonaaaG5

namespace Go.Proofs.Ytldcbkememonaaa
open Go.RowKit
set_option linter.unusedVariables false
set_option linter.unusedSimpArgs false

/-- what Is leaves -/
def IsP (R : Option (List Int)) (w : World) (e : Ending) (w' : World) : Prop := e = .returned (.bool R.isSome) ∧ Grow w w'
set_option maxHeartbeats 1000000 in
theorem is17_any (L : List Ins) (tx : ByteArray) (gr : Int) (R : Option (List Int)) (hR : findF gr L tx 0 = some R) (w : World) (a : Option Addr) (c g o : Nat) (hrd : RdI L g o w) (had : 0 < L.length → a = some ⟨g, o, none⟩) (LO : LOk L) (htx : tx.size ≤ 10000) :
    Calls Try.prog 17 #[.agg #[.int .i64 gr, .slice a L.length c], .string tx] w (IsP R w) := by
  have FN := fun w' => fun (h : Grow w w') => find_any L tx gr 0 R hR w' a c g o (hrd.grow h) had LO htx
  obtain ⟨nL, hnL⟩ : ∃ nL, nL = L.length := ⟨_, rfl⟩
  rw [← hnL] at FN ⊢
  have FN := Lib.hid FN
  clear hR hrd had LO hnL
  go_enter Try.func17, Try.ntmps17
  go_wp2_with fail
  refine (FN.out _ ((Grow.refl w).alloc _)).mono ?_
  rintro e w5 ⟨v5, rfl, _, hg5⟩
  have HG5 := Lib.hid (((Grow.refl w).alloc _).trans2 hg5)
  clear hg5
  go_wp2
  go_ret
  exact ⟨rfl, HG5.out⟩
end Go.Proofs.Ytldcbkememonaaa
