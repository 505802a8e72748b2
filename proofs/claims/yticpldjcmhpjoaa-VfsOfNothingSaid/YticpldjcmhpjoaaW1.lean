/-
  The walk of VfsOfNothing.
-/
import Derived.Test.YticpldjcmhpjoaaQh

namespace Go.Proofs.Yticpldjcmhpjoaa
open Go.RowKit
set_option linter.unusedVariables false
set_option linter.unusedSimpArgs false

set_option maxRecDepth 20000 in
set_option maxHeartbeats 2000000 in
theorem nothing_any (s : ByteArray) (n : Int) (a : Option Addr) (k c : Nat) (w : World) : Calls Try.prog 7 #[.string s, .int .i64 n, .slice a k c] w (OnlyP (.bool true) w) := by
  by_cases h1 : (3000 : Int) < (s.size : Int)
  · go_enter Try.func7, Try.ntmps7
    go_wp2
    go_ret
    exact ⟨rfl, Below.refl _ _⟩
  · by_cases h2 : (3000 : Int) < (k : Int)
    · go_enter Try.func7, Try.ntmps7
      go_wp2
      go_ret
      exact ⟨rfl, Below.refl _ _⟩
    · have RN := Lib.hid (read_nil s n n)
      have SN := Lib.hid (size_nil s)
      have YN := Lib.hid sync_nil
      have XN := Lib.hid (crash_nil n n)
      have CN := Lib.hid (create_nil s)
      have WN := Lib.hid (write_nil s n)
      have MN := Lib.hid (remove_nil s)
      have LN := Lib.hid list_nil
      have PN := Lib.hid pending_nil
      have UN := Lib.hid used_nil
      have KN := Lib.hid known_any
      go_enter Try.func7, Try.ntmps7
      go_wp2_with fail
      refine (RN.out _).mono ?_
      rintro _ w2 ⟨rfl, g2⟩
      have G := Lib.hid (show Grow w w2 from g2)
      clear g2
      go_wp2_with fail
      refine (SN.out _).mono ?_
      rintro _ w3 ⟨rfl, g3⟩
      have G := Lib.hid (show Grow w w3 from G.out.trans2 g3)
      clear g3
      go_wp2_with fail
      refine (YN.out _).mono ?_
      rintro _ w4 ⟨rfl, g4⟩
      have G := Lib.hid (show Grow w w4 from G.out.trans2 g4)
      clear g4
      go_wp2_with fail
      refine (XN.out _).mono ?_
      rintro _ w5 ⟨rfl, g5⟩
      have G := Lib.hid (show Grow w w5 from G.out.trans2 g5)
      clear g5
      go_wp2_with fail
      refine (CN.out _ _ _ _).mono ?_
      rintro _ w6 ⟨rfl, g6⟩
      have G := Lib.hid (show Grow w w6 from (G.out.alloc _).trans2 g6)
      clear g6
      go_wp2_with fail
      refine (WN.out _ _ _ _).mono ?_
      rintro _ w7 ⟨rfl, g7⟩
      have G := Lib.hid (show Grow w w7 from (G.out.alloc _).trans2 g7)
      clear g7
      go_wp2_with fail
      refine (MN.out _).mono ?_
      rintro _ w8 ⟨rfl, g8⟩
      have G := Lib.hid (show Grow w w8 from G.out.trans2 g8)
      clear g8
      go_wp2_with fail
      refine (LN.out _).mono ?_
      rintro _ w9 ⟨rfl, g9⟩
      have G := Lib.hid (show Grow w w9 from G.out.trans2 g9)
      clear g9
      go_wp2_with fail
      refine (PN.out _).mono ?_
      rintro _ w10 ⟨rfl, g10⟩
      have G := Lib.hid (show Grow w w10 from G.out.trans2 g10)
      clear g10
      go_wp2_with fail
      refine (UN.out _).mono ?_
      rintro _ w11 ⟨rfl, g11⟩
      have G := Lib.hid (show Grow w w11 from G.out.trans2 g11)
      clear g11
      go_wp2_with fail
      refine (KN.out _).mono ?_
      rintro _ w12 ⟨rfl, g12⟩
      have G := Lib.hid (show Grow w w12 from G.out.trans2 g12)
      clear g12
      go_wp2
      go_ret
      exact ⟨rfl, G.out⟩
end Go.Proofs.Yticpldjcmhpjoaa
