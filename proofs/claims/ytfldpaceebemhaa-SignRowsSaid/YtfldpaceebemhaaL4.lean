/-
  The walks of the units of time (span.unit, graticuleref16.unit).
-/
import Derived.Test.YtfldpaceebemhaaL3
namespace Go.Proofs.Ytfldpaceebemhaa
open Go.RowKit

/-- the units -/
def unitRows : List (List (List UInt8) × Int) := [([[115], [115, 101, 99], [115, 101, 99, 115], [115, 101, 99, 111, 110, 100], [115, 101, 99, 111, 110, 100, 115]], 1), ([[109, 105, 110], [109, 105, 110, 115], [109, 105, 110, 117, 116, 101], [109, 105, 110, 117, 116, 101, 115]], 60), ([[104], [104, 111, 117, 114], [104, 111, 117, 114, 115]], 3600), ([[100], [100, 97, 121], [100, 97, 121, 115]], 86400), ([[119], [119, 101, 101, 107], [119, 101, 101, 107, 115]], 604800), ([[109, 111, 110], [109, 111, 110, 116, 104], [109, 111, 110, 116, 104, 115]], 2592000), ([[121], [121, 101, 97, 114], [121, 101, 97, 114, 115]], 31536000)]
def unitIn (l : List UInt8) : List (List (List UInt8) × Int) → Int
  | [] => 0
  | (ns, u) :: r => if ns.any (fun n => l == n) then u else unitIn l r
/-- a unit's seconds -/
def unitF (s : ByteArray) : Int := unitIn s.toList unitRows
theorem unitF_bd (s : ByteArray) : 0 ≤ unitF s ∧ unitF s ≤ 31536000 := by
  unfold unitF unitRows
  repeat (first | (unfold unitIn; split; · decide) | (unfold unitIn; decide))

theorem unit37_0 (s : ByteArray) (w : World)  (h0 : (s.toList == ([115] : List UInt8)) = true) : Calls Try.prog 37 #[.string s] w fun e w' => e = .returned (.int .i64 1) ∧ w = w' := by
  go_enter Try.func37, Try.ntmps37
  go_wp2
  go_ret
  exact ⟨rfl, rfl⟩
theorem unit37_1 (s : ByteArray) (w : World) (h0 : (s.toList == ([115] : List UInt8)) = false) (h1 : (s.toList == ([115, 101, 99] : List UInt8)) = true) : Calls Try.prog 37 #[.string s] w fun e w' => e = .returned (.int .i64 1) ∧ w = w' := by
  go_enter Try.func37, Try.ntmps37
  go_wp2
  go_ret
  exact ⟨rfl, rfl⟩
theorem unit37_2 (s : ByteArray) (w : World) (h0 : (s.toList == ([115] : List UInt8)) = false) (h1 : (s.toList == ([115, 101, 99] : List UInt8)) = false) (h2 : (s.toList == ([115, 101, 99, 115] : List UInt8)) = true) : Calls Try.prog 37 #[.string s] w fun e w' => e = .returned (.int .i64 1) ∧ w = w' := by
  go_enter Try.func37, Try.ntmps37
  go_wp2
  go_ret
  exact ⟨rfl, rfl⟩
theorem unit37_3 (s : ByteArray) (w : World) (h0 : (s.toList == ([115] : List UInt8)) = false) (h1 : (s.toList == ([115, 101, 99] : List UInt8)) = false) (h2 : (s.toList == ([115, 101, 99, 115] : List UInt8)) = false) (h3 : (s.toList == ([115, 101, 99, 111, 110, 100] : List UInt8)) = true) : Calls Try.prog 37 #[.string s] w fun e w' => e = .returned (.int .i64 1) ∧ w = w' := by
  go_enter Try.func37, Try.ntmps37
  go_wp2
  go_ret
  exact ⟨rfl, rfl⟩
theorem unit37_4 (s : ByteArray) (w : World) (h0 : (s.toList == ([115] : List UInt8)) = false) (h1 : (s.toList == ([115, 101, 99] : List UInt8)) = false) (h2 : (s.toList == ([115, 101, 99, 115] : List UInt8)) = false) (h3 : (s.toList == ([115, 101, 99, 111, 110, 100] : List UInt8)) = false) (h4 : (s.toList == ([115, 101, 99, 111, 110, 100, 115] : List UInt8)) = true) : Calls Try.prog 37 #[.string s] w fun e w' => e = .returned (.int .i64 1) ∧ w = w' := by
  go_enter Try.func37, Try.ntmps37
  go_wp2
  go_ret
  exact ⟨rfl, rfl⟩
theorem unit37_5 (s : ByteArray) (w : World) (h0 : (s.toList == ([115] : List UInt8)) = false) (h1 : (s.toList == ([115, 101, 99] : List UInt8)) = false) (h2 : (s.toList == ([115, 101, 99, 115] : List UInt8)) = false) (h3 : (s.toList == ([115, 101, 99, 111, 110, 100] : List UInt8)) = false) (h4 : (s.toList == ([115, 101, 99, 111, 110, 100, 115] : List UInt8)) = false) (h5 : (s.toList == ([109, 105, 110] : List UInt8)) = true) : Calls Try.prog 37 #[.string s] w fun e w' => e = .returned (.int .i64 60) ∧ w = w' := by
  go_enter Try.func37, Try.ntmps37
  go_wp2
  go_ret
  exact ⟨rfl, rfl⟩
theorem unit37_6 (s : ByteArray) (w : World) (h0 : (s.toList == ([115] : List UInt8)) = false) (h1 : (s.toList == ([115, 101, 99] : List UInt8)) = false) (h2 : (s.toList == ([115, 101, 99, 115] : List UInt8)) = false) (h3 : (s.toList == ([115, 101, 99, 111, 110, 100] : List UInt8)) = false) (h4 : (s.toList == ([115, 101, 99, 111, 110, 100, 115] : List UInt8)) = false) (h5 : (s.toList == ([109, 105, 110] : List UInt8)) = false) (h6 : (s.toList == ([109, 105, 110, 115] : List UInt8)) = true) : Calls Try.prog 37 #[.string s] w fun e w' => e = .returned (.int .i64 60) ∧ w = w' := by
  go_enter Try.func37, Try.ntmps37
  go_wp2
  go_ret
  exact ⟨rfl, rfl⟩
theorem unit37_7 (s : ByteArray) (w : World) (h0 : (s.toList == ([115] : List UInt8)) = false) (h1 : (s.toList == ([115, 101, 99] : List UInt8)) = false) (h2 : (s.toList == ([115, 101, 99, 115] : List UInt8)) = false) (h3 : (s.toList == ([115, 101, 99, 111, 110, 100] : List UInt8)) = false) (h4 : (s.toList == ([115, 101, 99, 111, 110, 100, 115] : List UInt8)) = false) (h5 : (s.toList == ([109, 105, 110] : List UInt8)) = false) (h6 : (s.toList == ([109, 105, 110, 115] : List UInt8)) = false) (h7 : (s.toList == ([109, 105, 110, 117, 116, 101] : List UInt8)) = true) : Calls Try.prog 37 #[.string s] w fun e w' => e = .returned (.int .i64 60) ∧ w = w' := by
  go_enter Try.func37, Try.ntmps37
  go_wp2
  go_ret
  exact ⟨rfl, rfl⟩
theorem unit37_8 (s : ByteArray) (w : World) (h0 : (s.toList == ([115] : List UInt8)) = false) (h1 : (s.toList == ([115, 101, 99] : List UInt8)) = false) (h2 : (s.toList == ([115, 101, 99, 115] : List UInt8)) = false) (h3 : (s.toList == ([115, 101, 99, 111, 110, 100] : List UInt8)) = false) (h4 : (s.toList == ([115, 101, 99, 111, 110, 100, 115] : List UInt8)) = false) (h5 : (s.toList == ([109, 105, 110] : List UInt8)) = false) (h6 : (s.toList == ([109, 105, 110, 115] : List UInt8)) = false) (h7 : (s.toList == ([109, 105, 110, 117, 116, 101] : List UInt8)) = false) (h8 : (s.toList == ([109, 105, 110, 117, 116, 101, 115] : List UInt8)) = true) : Calls Try.prog 37 #[.string s] w fun e w' => e = .returned (.int .i64 60) ∧ w = w' := by
  go_enter Try.func37, Try.ntmps37
  go_wp2
  go_ret
  exact ⟨rfl, rfl⟩
theorem unit37_9 (s : ByteArray) (w : World) (h0 : (s.toList == ([115] : List UInt8)) = false) (h1 : (s.toList == ([115, 101, 99] : List UInt8)) = false) (h2 : (s.toList == ([115, 101, 99, 115] : List UInt8)) = false) (h3 : (s.toList == ([115, 101, 99, 111, 110, 100] : List UInt8)) = false) (h4 : (s.toList == ([115, 101, 99, 111, 110, 100, 115] : List UInt8)) = false) (h5 : (s.toList == ([109, 105, 110] : List UInt8)) = false) (h6 : (s.toList == ([109, 105, 110, 115] : List UInt8)) = false) (h7 : (s.toList == ([109, 105, 110, 117, 116, 101] : List UInt8)) = false) (h8 : (s.toList == ([109, 105, 110, 117, 116, 101, 115] : List UInt8)) = false) (h9 : (s.toList == ([104] : List UInt8)) = true) : Calls Try.prog 37 #[.string s] w fun e w' => e = .returned (.int .i64 3600) ∧ w = w' := by
  go_enter Try.func37, Try.ntmps37
  go_wp2
  go_ret
  exact ⟨rfl, rfl⟩
theorem unit37_10 (s : ByteArray) (w : World) (h0 : (s.toList == ([115] : List UInt8)) = false) (h1 : (s.toList == ([115, 101, 99] : List UInt8)) = false) (h2 : (s.toList == ([115, 101, 99, 115] : List UInt8)) = false) (h3 : (s.toList == ([115, 101, 99, 111, 110, 100] : List UInt8)) = false) (h4 : (s.toList == ([115, 101, 99, 111, 110, 100, 115] : List UInt8)) = false) (h5 : (s.toList == ([109, 105, 110] : List UInt8)) = false) (h6 : (s.toList == ([109, 105, 110, 115] : List UInt8)) = false) (h7 : (s.toList == ([109, 105, 110, 117, 116, 101] : List UInt8)) = false) (h8 : (s.toList == ([109, 105, 110, 117, 116, 101, 115] : List UInt8)) = false) (h9 : (s.toList == ([104] : List UInt8)) = false) (h10 : (s.toList == ([104, 111, 117, 114] : List UInt8)) = true) : Calls Try.prog 37 #[.string s] w fun e w' => e = .returned (.int .i64 3600) ∧ w = w' := by
  go_enter Try.func37, Try.ntmps37
  go_wp2
  go_ret
  exact ⟨rfl, rfl⟩
theorem unit37_11 (s : ByteArray) (w : World) (h0 : (s.toList == ([115] : List UInt8)) = false) (h1 : (s.toList == ([115, 101, 99] : List UInt8)) = false) (h2 : (s.toList == ([115, 101, 99, 115] : List UInt8)) = false) (h3 : (s.toList == ([115, 101, 99, 111, 110, 100] : List UInt8)) = false) (h4 : (s.toList == ([115, 101, 99, 111, 110, 100, 115] : List UInt8)) = false) (h5 : (s.toList == ([109, 105, 110] : List UInt8)) = false) (h6 : (s.toList == ([109, 105, 110, 115] : List UInt8)) = false) (h7 : (s.toList == ([109, 105, 110, 117, 116, 101] : List UInt8)) = false) (h8 : (s.toList == ([109, 105, 110, 117, 116, 101, 115] : List UInt8)) = false) (h9 : (s.toList == ([104] : List UInt8)) = false) (h10 : (s.toList == ([104, 111, 117, 114] : List UInt8)) = false) (h11 : (s.toList == ([104, 111, 117, 114, 115] : List UInt8)) = true) : Calls Try.prog 37 #[.string s] w fun e w' => e = .returned (.int .i64 3600) ∧ w = w' := by
  go_enter Try.func37, Try.ntmps37
  go_wp2
  go_ret
  exact ⟨rfl, rfl⟩
theorem unit37_12 (s : ByteArray) (w : World) (h0 : (s.toList == ([115] : List UInt8)) = false) (h1 : (s.toList == ([115, 101, 99] : List UInt8)) = false) (h2 : (s.toList == ([115, 101, 99, 115] : List UInt8)) = false) (h3 : (s.toList == ([115, 101, 99, 111, 110, 100] : List UInt8)) = false) (h4 : (s.toList == ([115, 101, 99, 111, 110, 100, 115] : List UInt8)) = false) (h5 : (s.toList == ([109, 105, 110] : List UInt8)) = false) (h6 : (s.toList == ([109, 105, 110, 115] : List UInt8)) = false) (h7 : (s.toList == ([109, 105, 110, 117, 116, 101] : List UInt8)) = false) (h8 : (s.toList == ([109, 105, 110, 117, 116, 101, 115] : List UInt8)) = false) (h9 : (s.toList == ([104] : List UInt8)) = false) (h10 : (s.toList == ([104, 111, 117, 114] : List UInt8)) = false) (h11 : (s.toList == ([104, 111, 117, 114, 115] : List UInt8)) = false) (h12 : (s.toList == ([100] : List UInt8)) = true) : Calls Try.prog 37 #[.string s] w fun e w' => e = .returned (.int .i64 86400) ∧ w = w' := by
  go_enter Try.func37, Try.ntmps37
  go_wp2
  go_ret
  exact ⟨rfl, rfl⟩
theorem unit37_13 (s : ByteArray) (w : World) (h0 : (s.toList == ([115] : List UInt8)) = false) (h1 : (s.toList == ([115, 101, 99] : List UInt8)) = false) (h2 : (s.toList == ([115, 101, 99, 115] : List UInt8)) = false) (h3 : (s.toList == ([115, 101, 99, 111, 110, 100] : List UInt8)) = false) (h4 : (s.toList == ([115, 101, 99, 111, 110, 100, 115] : List UInt8)) = false) (h5 : (s.toList == ([109, 105, 110] : List UInt8)) = false) (h6 : (s.toList == ([109, 105, 110, 115] : List UInt8)) = false) (h7 : (s.toList == ([109, 105, 110, 117, 116, 101] : List UInt8)) = false) (h8 : (s.toList == ([109, 105, 110, 117, 116, 101, 115] : List UInt8)) = false) (h9 : (s.toList == ([104] : List UInt8)) = false) (h10 : (s.toList == ([104, 111, 117, 114] : List UInt8)) = false) (h11 : (s.toList == ([104, 111, 117, 114, 115] : List UInt8)) = false) (h12 : (s.toList == ([100] : List UInt8)) = false) (h13 : (s.toList == ([100, 97, 121] : List UInt8)) = true) : Calls Try.prog 37 #[.string s] w fun e w' => e = .returned (.int .i64 86400) ∧ w = w' := by
  go_enter Try.func37, Try.ntmps37
  go_wp2
  go_ret
  exact ⟨rfl, rfl⟩
theorem unit37_14 (s : ByteArray) (w : World) (h0 : (s.toList == ([115] : List UInt8)) = false) (h1 : (s.toList == ([115, 101, 99] : List UInt8)) = false) (h2 : (s.toList == ([115, 101, 99, 115] : List UInt8)) = false) (h3 : (s.toList == ([115, 101, 99, 111, 110, 100] : List UInt8)) = false) (h4 : (s.toList == ([115, 101, 99, 111, 110, 100, 115] : List UInt8)) = false) (h5 : (s.toList == ([109, 105, 110] : List UInt8)) = false) (h6 : (s.toList == ([109, 105, 110, 115] : List UInt8)) = false) (h7 : (s.toList == ([109, 105, 110, 117, 116, 101] : List UInt8)) = false) (h8 : (s.toList == ([109, 105, 110, 117, 116, 101, 115] : List UInt8)) = false) (h9 : (s.toList == ([104] : List UInt8)) = false) (h10 : (s.toList == ([104, 111, 117, 114] : List UInt8)) = false) (h11 : (s.toList == ([104, 111, 117, 114, 115] : List UInt8)) = false) (h12 : (s.toList == ([100] : List UInt8)) = false) (h13 : (s.toList == ([100, 97, 121] : List UInt8)) = false) (h14 : (s.toList == ([100, 97, 121, 115] : List UInt8)) = true) : Calls Try.prog 37 #[.string s] w fun e w' => e = .returned (.int .i64 86400) ∧ w = w' := by
  go_enter Try.func37, Try.ntmps37
  go_wp2
  go_ret
  exact ⟨rfl, rfl⟩
theorem unit37_15 (s : ByteArray) (w : World) (h0 : (s.toList == ([115] : List UInt8)) = false) (h1 : (s.toList == ([115, 101, 99] : List UInt8)) = false) (h2 : (s.toList == ([115, 101, 99, 115] : List UInt8)) = false) (h3 : (s.toList == ([115, 101, 99, 111, 110, 100] : List UInt8)) = false) (h4 : (s.toList == ([115, 101, 99, 111, 110, 100, 115] : List UInt8)) = false) (h5 : (s.toList == ([109, 105, 110] : List UInt8)) = false) (h6 : (s.toList == ([109, 105, 110, 115] : List UInt8)) = false) (h7 : (s.toList == ([109, 105, 110, 117, 116, 101] : List UInt8)) = false) (h8 : (s.toList == ([109, 105, 110, 117, 116, 101, 115] : List UInt8)) = false) (h9 : (s.toList == ([104] : List UInt8)) = false) (h10 : (s.toList == ([104, 111, 117, 114] : List UInt8)) = false) (h11 : (s.toList == ([104, 111, 117, 114, 115] : List UInt8)) = false) (h12 : (s.toList == ([100] : List UInt8)) = false) (h13 : (s.toList == ([100, 97, 121] : List UInt8)) = false) (h14 : (s.toList == ([100, 97, 121, 115] : List UInt8)) = false) (h15 : (s.toList == ([119] : List UInt8)) = true) : Calls Try.prog 37 #[.string s] w fun e w' => e = .returned (.int .i64 604800) ∧ w = w' := by
  go_enter Try.func37, Try.ntmps37
  go_wp2
  go_ret
  exact ⟨rfl, rfl⟩
theorem unit37_16 (s : ByteArray) (w : World) (h0 : (s.toList == ([115] : List UInt8)) = false) (h1 : (s.toList == ([115, 101, 99] : List UInt8)) = false) (h2 : (s.toList == ([115, 101, 99, 115] : List UInt8)) = false) (h3 : (s.toList == ([115, 101, 99, 111, 110, 100] : List UInt8)) = false) (h4 : (s.toList == ([115, 101, 99, 111, 110, 100, 115] : List UInt8)) = false) (h5 : (s.toList == ([109, 105, 110] : List UInt8)) = false) (h6 : (s.toList == ([109, 105, 110, 115] : List UInt8)) = false) (h7 : (s.toList == ([109, 105, 110, 117, 116, 101] : List UInt8)) = false) (h8 : (s.toList == ([109, 105, 110, 117, 116, 101, 115] : List UInt8)) = false) (h9 : (s.toList == ([104] : List UInt8)) = false) (h10 : (s.toList == ([104, 111, 117, 114] : List UInt8)) = false) (h11 : (s.toList == ([104, 111, 117, 114, 115] : List UInt8)) = false) (h12 : (s.toList == ([100] : List UInt8)) = false) (h13 : (s.toList == ([100, 97, 121] : List UInt8)) = false) (h14 : (s.toList == ([100, 97, 121, 115] : List UInt8)) = false) (h15 : (s.toList == ([119] : List UInt8)) = false) (h16 : (s.toList == ([119, 101, 101, 107] : List UInt8)) = true) : Calls Try.prog 37 #[.string s] w fun e w' => e = .returned (.int .i64 604800) ∧ w = w' := by
  go_enter Try.func37, Try.ntmps37
  go_wp2
  go_ret
  exact ⟨rfl, rfl⟩
theorem unit37_17 (s : ByteArray) (w : World) (h0 : (s.toList == ([115] : List UInt8)) = false) (h1 : (s.toList == ([115, 101, 99] : List UInt8)) = false) (h2 : (s.toList == ([115, 101, 99, 115] : List UInt8)) = false) (h3 : (s.toList == ([115, 101, 99, 111, 110, 100] : List UInt8)) = false) (h4 : (s.toList == ([115, 101, 99, 111, 110, 100, 115] : List UInt8)) = false) (h5 : (s.toList == ([109, 105, 110] : List UInt8)) = false) (h6 : (s.toList == ([109, 105, 110, 115] : List UInt8)) = false) (h7 : (s.toList == ([109, 105, 110, 117, 116, 101] : List UInt8)) = false) (h8 : (s.toList == ([109, 105, 110, 117, 116, 101, 115] : List UInt8)) = false) (h9 : (s.toList == ([104] : List UInt8)) = false) (h10 : (s.toList == ([104, 111, 117, 114] : List UInt8)) = false) (h11 : (s.toList == ([104, 111, 117, 114, 115] : List UInt8)) = false) (h12 : (s.toList == ([100] : List UInt8)) = false) (h13 : (s.toList == ([100, 97, 121] : List UInt8)) = false) (h14 : (s.toList == ([100, 97, 121, 115] : List UInt8)) = false) (h15 : (s.toList == ([119] : List UInt8)) = false) (h16 : (s.toList == ([119, 101, 101, 107] : List UInt8)) = false) (h17 : (s.toList == ([119, 101, 101, 107, 115] : List UInt8)) = true) : Calls Try.prog 37 #[.string s] w fun e w' => e = .returned (.int .i64 604800) ∧ w = w' := by
  go_enter Try.func37, Try.ntmps37
  go_wp2
  go_ret
  exact ⟨rfl, rfl⟩
theorem unit37_18 (s : ByteArray) (w : World) (h0 : (s.toList == ([115] : List UInt8)) = false) (h1 : (s.toList == ([115, 101, 99] : List UInt8)) = false) (h2 : (s.toList == ([115, 101, 99, 115] : List UInt8)) = false) (h3 : (s.toList == ([115, 101, 99, 111, 110, 100] : List UInt8)) = false) (h4 : (s.toList == ([115, 101, 99, 111, 110, 100, 115] : List UInt8)) = false) (h5 : (s.toList == ([109, 105, 110] : List UInt8)) = false) (h6 : (s.toList == ([109, 105, 110, 115] : List UInt8)) = false) (h7 : (s.toList == ([109, 105, 110, 117, 116, 101] : List UInt8)) = false) (h8 : (s.toList == ([109, 105, 110, 117, 116, 101, 115] : List UInt8)) = false) (h9 : (s.toList == ([104] : List UInt8)) = false) (h10 : (s.toList == ([104, 111, 117, 114] : List UInt8)) = false) (h11 : (s.toList == ([104, 111, 117, 114, 115] : List UInt8)) = false) (h12 : (s.toList == ([100] : List UInt8)) = false) (h13 : (s.toList == ([100, 97, 121] : List UInt8)) = false) (h14 : (s.toList == ([100, 97, 121, 115] : List UInt8)) = false) (h15 : (s.toList == ([119] : List UInt8)) = false) (h16 : (s.toList == ([119, 101, 101, 107] : List UInt8)) = false) (h17 : (s.toList == ([119, 101, 101, 107, 115] : List UInt8)) = false) (h18 : (s.toList == ([109, 111, 110] : List UInt8)) = true) : Calls Try.prog 37 #[.string s] w fun e w' => e = .returned (.int .i64 2592000) ∧ w = w' := by
  go_enter Try.func37, Try.ntmps37
  go_wp2
  go_ret
  exact ⟨rfl, rfl⟩
theorem unit37_19 (s : ByteArray) (w : World) (h0 : (s.toList == ([115] : List UInt8)) = false) (h1 : (s.toList == ([115, 101, 99] : List UInt8)) = false) (h2 : (s.toList == ([115, 101, 99, 115] : List UInt8)) = false) (h3 : (s.toList == ([115, 101, 99, 111, 110, 100] : List UInt8)) = false) (h4 : (s.toList == ([115, 101, 99, 111, 110, 100, 115] : List UInt8)) = false) (h5 : (s.toList == ([109, 105, 110] : List UInt8)) = false) (h6 : (s.toList == ([109, 105, 110, 115] : List UInt8)) = false) (h7 : (s.toList == ([109, 105, 110, 117, 116, 101] : List UInt8)) = false) (h8 : (s.toList == ([109, 105, 110, 117, 116, 101, 115] : List UInt8)) = false) (h9 : (s.toList == ([104] : List UInt8)) = false) (h10 : (s.toList == ([104, 111, 117, 114] : List UInt8)) = false) (h11 : (s.toList == ([104, 111, 117, 114, 115] : List UInt8)) = false) (h12 : (s.toList == ([100] : List UInt8)) = false) (h13 : (s.toList == ([100, 97, 121] : List UInt8)) = false) (h14 : (s.toList == ([100, 97, 121, 115] : List UInt8)) = false) (h15 : (s.toList == ([119] : List UInt8)) = false) (h16 : (s.toList == ([119, 101, 101, 107] : List UInt8)) = false) (h17 : (s.toList == ([119, 101, 101, 107, 115] : List UInt8)) = false) (h18 : (s.toList == ([109, 111, 110] : List UInt8)) = false) (h19 : (s.toList == ([109, 111, 110, 116, 104] : List UInt8)) = true) : Calls Try.prog 37 #[.string s] w fun e w' => e = .returned (.int .i64 2592000) ∧ w = w' := by
  go_enter Try.func37, Try.ntmps37
  go_wp2
  go_ret
  exact ⟨rfl, rfl⟩
theorem unit37_20 (s : ByteArray) (w : World) (h0 : (s.toList == ([115] : List UInt8)) = false) (h1 : (s.toList == ([115, 101, 99] : List UInt8)) = false) (h2 : (s.toList == ([115, 101, 99, 115] : List UInt8)) = false) (h3 : (s.toList == ([115, 101, 99, 111, 110, 100] : List UInt8)) = false) (h4 : (s.toList == ([115, 101, 99, 111, 110, 100, 115] : List UInt8)) = false) (h5 : (s.toList == ([109, 105, 110] : List UInt8)) = false) (h6 : (s.toList == ([109, 105, 110, 115] : List UInt8)) = false) (h7 : (s.toList == ([109, 105, 110, 117, 116, 101] : List UInt8)) = false) (h8 : (s.toList == ([109, 105, 110, 117, 116, 101, 115] : List UInt8)) = false) (h9 : (s.toList == ([104] : List UInt8)) = false) (h10 : (s.toList == ([104, 111, 117, 114] : List UInt8)) = false) (h11 : (s.toList == ([104, 111, 117, 114, 115] : List UInt8)) = false) (h12 : (s.toList == ([100] : List UInt8)) = false) (h13 : (s.toList == ([100, 97, 121] : List UInt8)) = false) (h14 : (s.toList == ([100, 97, 121, 115] : List UInt8)) = false) (h15 : (s.toList == ([119] : List UInt8)) = false) (h16 : (s.toList == ([119, 101, 101, 107] : List UInt8)) = false) (h17 : (s.toList == ([119, 101, 101, 107, 115] : List UInt8)) = false) (h18 : (s.toList == ([109, 111, 110] : List UInt8)) = false) (h19 : (s.toList == ([109, 111, 110, 116, 104] : List UInt8)) = false) (h20 : (s.toList == ([109, 111, 110, 116, 104, 115] : List UInt8)) = true) : Calls Try.prog 37 #[.string s] w fun e w' => e = .returned (.int .i64 2592000) ∧ w = w' := by
  go_enter Try.func37, Try.ntmps37
  go_wp2
  go_ret
  exact ⟨rfl, rfl⟩
theorem unit37_21 (s : ByteArray) (w : World) (h0 : (s.toList == ([115] : List UInt8)) = false) (h1 : (s.toList == ([115, 101, 99] : List UInt8)) = false) (h2 : (s.toList == ([115, 101, 99, 115] : List UInt8)) = false) (h3 : (s.toList == ([115, 101, 99, 111, 110, 100] : List UInt8)) = false) (h4 : (s.toList == ([115, 101, 99, 111, 110, 100, 115] : List UInt8)) = false) (h5 : (s.toList == ([109, 105, 110] : List UInt8)) = false) (h6 : (s.toList == ([109, 105, 110, 115] : List UInt8)) = false) (h7 : (s.toList == ([109, 105, 110, 117, 116, 101] : List UInt8)) = false) (h8 : (s.toList == ([109, 105, 110, 117, 116, 101, 115] : List UInt8)) = false) (h9 : (s.toList == ([104] : List UInt8)) = false) (h10 : (s.toList == ([104, 111, 117, 114] : List UInt8)) = false) (h11 : (s.toList == ([104, 111, 117, 114, 115] : List UInt8)) = false) (h12 : (s.toList == ([100] : List UInt8)) = false) (h13 : (s.toList == ([100, 97, 121] : List UInt8)) = false) (h14 : (s.toList == ([100, 97, 121, 115] : List UInt8)) = false) (h15 : (s.toList == ([119] : List UInt8)) = false) (h16 : (s.toList == ([119, 101, 101, 107] : List UInt8)) = false) (h17 : (s.toList == ([119, 101, 101, 107, 115] : List UInt8)) = false) (h18 : (s.toList == ([109, 111, 110] : List UInt8)) = false) (h19 : (s.toList == ([109, 111, 110, 116, 104] : List UInt8)) = false) (h20 : (s.toList == ([109, 111, 110, 116, 104, 115] : List UInt8)) = false) (h21 : (s.toList == ([121] : List UInt8)) = true) : Calls Try.prog 37 #[.string s] w fun e w' => e = .returned (.int .i64 31536000) ∧ w = w' := by
  go_enter Try.func37, Try.ntmps37
  go_wp2
  go_ret
  exact ⟨rfl, rfl⟩
theorem unit37_22 (s : ByteArray) (w : World) (h0 : (s.toList == ([115] : List UInt8)) = false) (h1 : (s.toList == ([115, 101, 99] : List UInt8)) = false) (h2 : (s.toList == ([115, 101, 99, 115] : List UInt8)) = false) (h3 : (s.toList == ([115, 101, 99, 111, 110, 100] : List UInt8)) = false) (h4 : (s.toList == ([115, 101, 99, 111, 110, 100, 115] : List UInt8)) = false) (h5 : (s.toList == ([109, 105, 110] : List UInt8)) = false) (h6 : (s.toList == ([109, 105, 110, 115] : List UInt8)) = false) (h7 : (s.toList == ([109, 105, 110, 117, 116, 101] : List UInt8)) = false) (h8 : (s.toList == ([109, 105, 110, 117, 116, 101, 115] : List UInt8)) = false) (h9 : (s.toList == ([104] : List UInt8)) = false) (h10 : (s.toList == ([104, 111, 117, 114] : List UInt8)) = false) (h11 : (s.toList == ([104, 111, 117, 114, 115] : List UInt8)) = false) (h12 : (s.toList == ([100] : List UInt8)) = false) (h13 : (s.toList == ([100, 97, 121] : List UInt8)) = false) (h14 : (s.toList == ([100, 97, 121, 115] : List UInt8)) = false) (h15 : (s.toList == ([119] : List UInt8)) = false) (h16 : (s.toList == ([119, 101, 101, 107] : List UInt8)) = false) (h17 : (s.toList == ([119, 101, 101, 107, 115] : List UInt8)) = false) (h18 : (s.toList == ([109, 111, 110] : List UInt8)) = false) (h19 : (s.toList == ([109, 111, 110, 116, 104] : List UInt8)) = false) (h20 : (s.toList == ([109, 111, 110, 116, 104, 115] : List UInt8)) = false) (h21 : (s.toList == ([121] : List UInt8)) = false) (h22 : (s.toList == ([121, 101, 97, 114] : List UInt8)) = true) : Calls Try.prog 37 #[.string s] w fun e w' => e = .returned (.int .i64 31536000) ∧ w = w' := by
  go_enter Try.func37, Try.ntmps37
  go_wp2
  go_ret
  exact ⟨rfl, rfl⟩
theorem unit37_23 (s : ByteArray) (w : World) (h0 : (s.toList == ([115] : List UInt8)) = false) (h1 : (s.toList == ([115, 101, 99] : List UInt8)) = false) (h2 : (s.toList == ([115, 101, 99, 115] : List UInt8)) = false) (h3 : (s.toList == ([115, 101, 99, 111, 110, 100] : List UInt8)) = false) (h4 : (s.toList == ([115, 101, 99, 111, 110, 100, 115] : List UInt8)) = false) (h5 : (s.toList == ([109, 105, 110] : List UInt8)) = false) (h6 : (s.toList == ([109, 105, 110, 115] : List UInt8)) = false) (h7 : (s.toList == ([109, 105, 110, 117, 116, 101] : List UInt8)) = false) (h8 : (s.toList == ([109, 105, 110, 117, 116, 101, 115] : List UInt8)) = false) (h9 : (s.toList == ([104] : List UInt8)) = false) (h10 : (s.toList == ([104, 111, 117, 114] : List UInt8)) = false) (h11 : (s.toList == ([104, 111, 117, 114, 115] : List UInt8)) = false) (h12 : (s.toList == ([100] : List UInt8)) = false) (h13 : (s.toList == ([100, 97, 121] : List UInt8)) = false) (h14 : (s.toList == ([100, 97, 121, 115] : List UInt8)) = false) (h15 : (s.toList == ([119] : List UInt8)) = false) (h16 : (s.toList == ([119, 101, 101, 107] : List UInt8)) = false) (h17 : (s.toList == ([119, 101, 101, 107, 115] : List UInt8)) = false) (h18 : (s.toList == ([109, 111, 110] : List UInt8)) = false) (h19 : (s.toList == ([109, 111, 110, 116, 104] : List UInt8)) = false) (h20 : (s.toList == ([109, 111, 110, 116, 104, 115] : List UInt8)) = false) (h21 : (s.toList == ([121] : List UInt8)) = false) (h22 : (s.toList == ([121, 101, 97, 114] : List UInt8)) = false) (h23 : (s.toList == ([121, 101, 97, 114, 115] : List UInt8)) = true) : Calls Try.prog 37 #[.string s] w fun e w' => e = .returned (.int .i64 31536000) ∧ w = w' := by
  go_enter Try.func37, Try.ntmps37
  go_wp2
  go_ret
  exact ⟨rfl, rfl⟩
theorem unit37_24 (s : ByteArray) (w : World) (h0 : (s.toList == ([115] : List UInt8)) = false) (h1 : (s.toList == ([115, 101, 99] : List UInt8)) = false) (h2 : (s.toList == ([115, 101, 99, 115] : List UInt8)) = false) (h3 : (s.toList == ([115, 101, 99, 111, 110, 100] : List UInt8)) = false) (h4 : (s.toList == ([115, 101, 99, 111, 110, 100, 115] : List UInt8)) = false) (h5 : (s.toList == ([109, 105, 110] : List UInt8)) = false) (h6 : (s.toList == ([109, 105, 110, 115] : List UInt8)) = false) (h7 : (s.toList == ([109, 105, 110, 117, 116, 101] : List UInt8)) = false) (h8 : (s.toList == ([109, 105, 110, 117, 116, 101, 115] : List UInt8)) = false) (h9 : (s.toList == ([104] : List UInt8)) = false) (h10 : (s.toList == ([104, 111, 117, 114] : List UInt8)) = false) (h11 : (s.toList == ([104, 111, 117, 114, 115] : List UInt8)) = false) (h12 : (s.toList == ([100] : List UInt8)) = false) (h13 : (s.toList == ([100, 97, 121] : List UInt8)) = false) (h14 : (s.toList == ([100, 97, 121, 115] : List UInt8)) = false) (h15 : (s.toList == ([119] : List UInt8)) = false) (h16 : (s.toList == ([119, 101, 101, 107] : List UInt8)) = false) (h17 : (s.toList == ([119, 101, 101, 107, 115] : List UInt8)) = false) (h18 : (s.toList == ([109, 111, 110] : List UInt8)) = false) (h19 : (s.toList == ([109, 111, 110, 116, 104] : List UInt8)) = false) (h20 : (s.toList == ([109, 111, 110, 116, 104, 115] : List UInt8)) = false) (h21 : (s.toList == ([121] : List UInt8)) = false) (h22 : (s.toList == ([121, 101, 97, 114] : List UInt8)) = false) (h23 : (s.toList == ([121, 101, 97, 114, 115] : List UInt8)) = false) : Calls Try.prog 37 #[.string s] w fun e w' => e = .returned (.int .i64 0) ∧ w = w' := by
  go_enter Try.func37, Try.ntmps37
  go_wp2
  go_ret
  exact ⟨rfl, rfl⟩
theorem unit37_any (s : ByteArray) (w : World) : Calls Try.prog 37 #[.string s] w fun e w' => e = .returned (.int .i64 (unitF s)) ∧ w = w' := by
  unfold unitF unitRows
  cases h0 : (s.toList == ([115] : List UInt8)) with
  | true => rw [show unitIn s.toList _ = 1 from by simp only [unitIn, List.any_cons, List.any_nil, h0, Bool.or_true, Bool.true_or, Bool.or_false, Bool.false_or, if_true, if_false, Bool.false_eq_true]]; exact unit37_0 s w h0
  | false =>
  cases h1 : (s.toList == ([115, 101, 99] : List UInt8)) with
  | true => rw [show unitIn s.toList _ = 1 from by simp only [unitIn, List.any_cons, List.any_nil, h0, h1, Bool.or_true, Bool.true_or, Bool.or_false, Bool.false_or, if_true, if_false, Bool.false_eq_true]]; exact unit37_1 s w h0 h1
  | false =>
  cases h2 : (s.toList == ([115, 101, 99, 115] : List UInt8)) with
  | true => rw [show unitIn s.toList _ = 1 from by simp only [unitIn, List.any_cons, List.any_nil, h0, h1, h2, Bool.or_true, Bool.true_or, Bool.or_false, Bool.false_or, if_true, if_false, Bool.false_eq_true]]; exact unit37_2 s w h0 h1 h2
  | false =>
  cases h3 : (s.toList == ([115, 101, 99, 111, 110, 100] : List UInt8)) with
  | true => rw [show unitIn s.toList _ = 1 from by simp only [unitIn, List.any_cons, List.any_nil, h0, h1, h2, h3, Bool.or_true, Bool.true_or, Bool.or_false, Bool.false_or, if_true, if_false, Bool.false_eq_true]]; exact unit37_3 s w h0 h1 h2 h3
  | false =>
  cases h4 : (s.toList == ([115, 101, 99, 111, 110, 100, 115] : List UInt8)) with
  | true => rw [show unitIn s.toList _ = 1 from by simp only [unitIn, List.any_cons, List.any_nil, h0, h1, h2, h3, h4, Bool.or_true, Bool.true_or, Bool.or_false, Bool.false_or, if_true, if_false, Bool.false_eq_true]]; exact unit37_4 s w h0 h1 h2 h3 h4
  | false =>
  cases h5 : (s.toList == ([109, 105, 110] : List UInt8)) with
  | true => rw [show unitIn s.toList _ = 60 from by simp only [unitIn, List.any_cons, List.any_nil, h0, h1, h2, h3, h4, h5, Bool.or_true, Bool.true_or, Bool.or_false, Bool.false_or, if_true, if_false, Bool.false_eq_true]]; exact unit37_5 s w h0 h1 h2 h3 h4 h5
  | false =>
  cases h6 : (s.toList == ([109, 105, 110, 115] : List UInt8)) with
  | true => rw [show unitIn s.toList _ = 60 from by simp only [unitIn, List.any_cons, List.any_nil, h0, h1, h2, h3, h4, h5, h6, Bool.or_true, Bool.true_or, Bool.or_false, Bool.false_or, if_true, if_false, Bool.false_eq_true]]; exact unit37_6 s w h0 h1 h2 h3 h4 h5 h6
  | false =>
  cases h7 : (s.toList == ([109, 105, 110, 117, 116, 101] : List UInt8)) with
  | true => rw [show unitIn s.toList _ = 60 from by simp only [unitIn, List.any_cons, List.any_nil, h0, h1, h2, h3, h4, h5, h6, h7, Bool.or_true, Bool.true_or, Bool.or_false, Bool.false_or, if_true, if_false, Bool.false_eq_true]]; exact unit37_7 s w h0 h1 h2 h3 h4 h5 h6 h7
  | false =>
  cases h8 : (s.toList == ([109, 105, 110, 117, 116, 101, 115] : List UInt8)) with
  | true => rw [show unitIn s.toList _ = 60 from by simp only [unitIn, List.any_cons, List.any_nil, h0, h1, h2, h3, h4, h5, h6, h7, h8, Bool.or_true, Bool.true_or, Bool.or_false, Bool.false_or, if_true, if_false, Bool.false_eq_true]]; exact unit37_8 s w h0 h1 h2 h3 h4 h5 h6 h7 h8
  | false =>
  cases h9 : (s.toList == ([104] : List UInt8)) with
  | true => rw [show unitIn s.toList _ = 3600 from by simp only [unitIn, List.any_cons, List.any_nil, h0, h1, h2, h3, h4, h5, h6, h7, h8, h9, Bool.or_true, Bool.true_or, Bool.or_false, Bool.false_or, if_true, if_false, Bool.false_eq_true]]; exact unit37_9 s w h0 h1 h2 h3 h4 h5 h6 h7 h8 h9
  | false =>
  cases h10 : (s.toList == ([104, 111, 117, 114] : List UInt8)) with
  | true => rw [show unitIn s.toList _ = 3600 from by simp only [unitIn, List.any_cons, List.any_nil, h0, h1, h2, h3, h4, h5, h6, h7, h8, h9, h10, Bool.or_true, Bool.true_or, Bool.or_false, Bool.false_or, if_true, if_false, Bool.false_eq_true]]; exact unit37_10 s w h0 h1 h2 h3 h4 h5 h6 h7 h8 h9 h10
  | false =>
  cases h11 : (s.toList == ([104, 111, 117, 114, 115] : List UInt8)) with
  | true => rw [show unitIn s.toList _ = 3600 from by simp only [unitIn, List.any_cons, List.any_nil, h0, h1, h2, h3, h4, h5, h6, h7, h8, h9, h10, h11, Bool.or_true, Bool.true_or, Bool.or_false, Bool.false_or, if_true, if_false, Bool.false_eq_true]]; exact unit37_11 s w h0 h1 h2 h3 h4 h5 h6 h7 h8 h9 h10 h11
  | false =>
  cases h12 : (s.toList == ([100] : List UInt8)) with
  | true => rw [show unitIn s.toList _ = 86400 from by simp only [unitIn, List.any_cons, List.any_nil, h0, h1, h2, h3, h4, h5, h6, h7, h8, h9, h10, h11, h12, Bool.or_true, Bool.true_or, Bool.or_false, Bool.false_or, if_true, if_false, Bool.false_eq_true]]; exact unit37_12 s w h0 h1 h2 h3 h4 h5 h6 h7 h8 h9 h10 h11 h12
  | false =>
  cases h13 : (s.toList == ([100, 97, 121] : List UInt8)) with
  | true => rw [show unitIn s.toList _ = 86400 from by simp only [unitIn, List.any_cons, List.any_nil, h0, h1, h2, h3, h4, h5, h6, h7, h8, h9, h10, h11, h12, h13, Bool.or_true, Bool.true_or, Bool.or_false, Bool.false_or, if_true, if_false, Bool.false_eq_true]]; exact unit37_13 s w h0 h1 h2 h3 h4 h5 h6 h7 h8 h9 h10 h11 h12 h13
  | false =>
  cases h14 : (s.toList == ([100, 97, 121, 115] : List UInt8)) with
  | true => rw [show unitIn s.toList _ = 86400 from by simp only [unitIn, List.any_cons, List.any_nil, h0, h1, h2, h3, h4, h5, h6, h7, h8, h9, h10, h11, h12, h13, h14, Bool.or_true, Bool.true_or, Bool.or_false, Bool.false_or, if_true, if_false, Bool.false_eq_true]]; exact unit37_14 s w h0 h1 h2 h3 h4 h5 h6 h7 h8 h9 h10 h11 h12 h13 h14
  | false =>
  cases h15 : (s.toList == ([119] : List UInt8)) with
  | true => rw [show unitIn s.toList _ = 604800 from by simp only [unitIn, List.any_cons, List.any_nil, h0, h1, h2, h3, h4, h5, h6, h7, h8, h9, h10, h11, h12, h13, h14, h15, Bool.or_true, Bool.true_or, Bool.or_false, Bool.false_or, if_true, if_false, Bool.false_eq_true]]; exact unit37_15 s w h0 h1 h2 h3 h4 h5 h6 h7 h8 h9 h10 h11 h12 h13 h14 h15
  | false =>
  cases h16 : (s.toList == ([119, 101, 101, 107] : List UInt8)) with
  | true => rw [show unitIn s.toList _ = 604800 from by simp only [unitIn, List.any_cons, List.any_nil, h0, h1, h2, h3, h4, h5, h6, h7, h8, h9, h10, h11, h12, h13, h14, h15, h16, Bool.or_true, Bool.true_or, Bool.or_false, Bool.false_or, if_true, if_false, Bool.false_eq_true]]; exact unit37_16 s w h0 h1 h2 h3 h4 h5 h6 h7 h8 h9 h10 h11 h12 h13 h14 h15 h16
  | false =>
  cases h17 : (s.toList == ([119, 101, 101, 107, 115] : List UInt8)) with
  | true => rw [show unitIn s.toList _ = 604800 from by simp only [unitIn, List.any_cons, List.any_nil, h0, h1, h2, h3, h4, h5, h6, h7, h8, h9, h10, h11, h12, h13, h14, h15, h16, h17, Bool.or_true, Bool.true_or, Bool.or_false, Bool.false_or, if_true, if_false, Bool.false_eq_true]]; exact unit37_17 s w h0 h1 h2 h3 h4 h5 h6 h7 h8 h9 h10 h11 h12 h13 h14 h15 h16 h17
  | false =>
  cases h18 : (s.toList == ([109, 111, 110] : List UInt8)) with
  | true => rw [show unitIn s.toList _ = 2592000 from by simp only [unitIn, List.any_cons, List.any_nil, h0, h1, h2, h3, h4, h5, h6, h7, h8, h9, h10, h11, h12, h13, h14, h15, h16, h17, h18, Bool.or_true, Bool.true_or, Bool.or_false, Bool.false_or, if_true, if_false, Bool.false_eq_true]]; exact unit37_18 s w h0 h1 h2 h3 h4 h5 h6 h7 h8 h9 h10 h11 h12 h13 h14 h15 h16 h17 h18
  | false =>
  cases h19 : (s.toList == ([109, 111, 110, 116, 104] : List UInt8)) with
  | true => rw [show unitIn s.toList _ = 2592000 from by simp only [unitIn, List.any_cons, List.any_nil, h0, h1, h2, h3, h4, h5, h6, h7, h8, h9, h10, h11, h12, h13, h14, h15, h16, h17, h18, h19, Bool.or_true, Bool.true_or, Bool.or_false, Bool.false_or, if_true, if_false, Bool.false_eq_true]]; exact unit37_19 s w h0 h1 h2 h3 h4 h5 h6 h7 h8 h9 h10 h11 h12 h13 h14 h15 h16 h17 h18 h19
  | false =>
  cases h20 : (s.toList == ([109, 111, 110, 116, 104, 115] : List UInt8)) with
  | true => rw [show unitIn s.toList _ = 2592000 from by simp only [unitIn, List.any_cons, List.any_nil, h0, h1, h2, h3, h4, h5, h6, h7, h8, h9, h10, h11, h12, h13, h14, h15, h16, h17, h18, h19, h20, Bool.or_true, Bool.true_or, Bool.or_false, Bool.false_or, if_true, if_false, Bool.false_eq_true]]; exact unit37_20 s w h0 h1 h2 h3 h4 h5 h6 h7 h8 h9 h10 h11 h12 h13 h14 h15 h16 h17 h18 h19 h20
  | false =>
  cases h21 : (s.toList == ([121] : List UInt8)) with
  | true => rw [show unitIn s.toList _ = 31536000 from by simp only [unitIn, List.any_cons, List.any_nil, h0, h1, h2, h3, h4, h5, h6, h7, h8, h9, h10, h11, h12, h13, h14, h15, h16, h17, h18, h19, h20, h21, Bool.or_true, Bool.true_or, Bool.or_false, Bool.false_or, if_true, if_false, Bool.false_eq_true]]; exact unit37_21 s w h0 h1 h2 h3 h4 h5 h6 h7 h8 h9 h10 h11 h12 h13 h14 h15 h16 h17 h18 h19 h20 h21
  | false =>
  cases h22 : (s.toList == ([121, 101, 97, 114] : List UInt8)) with
  | true => rw [show unitIn s.toList _ = 31536000 from by simp only [unitIn, List.any_cons, List.any_nil, h0, h1, h2, h3, h4, h5, h6, h7, h8, h9, h10, h11, h12, h13, h14, h15, h16, h17, h18, h19, h20, h21, h22, Bool.or_true, Bool.true_or, Bool.or_false, Bool.false_or, if_true, if_false, Bool.false_eq_true]]; exact unit37_22 s w h0 h1 h2 h3 h4 h5 h6 h7 h8 h9 h10 h11 h12 h13 h14 h15 h16 h17 h18 h19 h20 h21 h22
  | false =>
  cases h23 : (s.toList == ([121, 101, 97, 114, 115] : List UInt8)) with
  | true => rw [show unitIn s.toList _ = 31536000 from by simp only [unitIn, List.any_cons, List.any_nil, h0, h1, h2, h3, h4, h5, h6, h7, h8, h9, h10, h11, h12, h13, h14, h15, h16, h17, h18, h19, h20, h21, h22, h23, Bool.or_true, Bool.true_or, Bool.or_false, Bool.false_or, if_true, if_false, Bool.false_eq_true]]; exact unit37_23 s w h0 h1 h2 h3 h4 h5 h6 h7 h8 h9 h10 h11 h12 h13 h14 h15 h16 h17 h18 h19 h20 h21 h22 h23
  | false =>
  rw [show unitIn s.toList _ = 0 from by simp only [unitIn, List.any_cons, List.any_nil, h0, h1, h2, h3, h4, h5, h6, h7, h8, h9, h10, h11, h12, h13, h14, h15, h16, h17, h18, h19, h20, h21, h22, h23, Bool.or_true, Bool.true_or, Bool.or_false, Bool.false_or, if_true, if_false, Bool.false_eq_true]]; exact unit37_24 s w h0 h1 h2 h3 h4 h5 h6 h7 h8 h9 h10 h11 h12 h13 h14 h15 h16 h17 h18 h19 h20 h21 h22 h23

theorem among_any (s : ByteArray) (xs : List ByteArray) (g c : Nat) (w : World) (hn : xs.length ≤ 100) (h : ∀ k x, xs[k]? = some x → w.cell? ⟨g, k, none⟩ = some (.string x)) :
    Calls Try.prog 47 #[.string s, .slice (some ⟨g, 0, none⟩) xs.length c] w fun e w' => e = .returned (.bool (xs.any fun x => s.toList == x.toList)) ∧ w = w' := by
  obtain ⟨n, hN⟩ : ∃ n, n = xs.length := ⟨_, rfl⟩
  have HN := Lib.hid hN
  have HC := Lib.hid h
  rw [← hN] at hn ⊢
  clear h hN
  go_enter Try.func47, Try.ntmps47
  go_wp2
  go_loop [9] (fun i => ∃ k : Nat, k ≤ n ∧ i = .int .i64 k ∧ Hid ((xs.take k).any (fun x => s.toList == x.toList) = false)) (fun i => n - (intOf i).toNat)
  case atStart => exact ⟨0, by omega, rfl, Lib.hid rfl⟩
  case round =>
    obtain ⟨k, hk, rfl, H⟩ := hrel
    have k0 : (0 : Int) ≤ (k : Int) := by omega
    by_cases hlt : k < n
    · have h1 : (k : Int) < (n : Int) := by omega
      obtain ⟨x, hx⟩ : ∃ x, xs[k]? = some x := ⟨_, List.getElem?_eq_getElem (by rw [← HN.out]; exact hlt)⟩
      have hc := HC.out k x hx
      have HT := Lib.hid (show xs.take (k + 1) = xs.take k ++ [x] from by
        rw [List.take_add_one, hx]; rfl)
      have HX := Lib.hid hx
      clear hx
      cases he : s.toList == x.toList with
      | true =>
        have he' : (x.toList == s.toList) = true := by rw [beq_iff_eq] at he ⊢; exact he.symm
        have HE := Lib.hid he
        clear he
        go_wp2
        go_ret
        refine ⟨ret_bool (Eq.symm (List.any_eq_true.mpr ⟨x, List.mem_of_getElem? HX.out, HE.out⟩)), rfl⟩
      | false =>
        have he' : (x.toList == s.toList) = false := by
          rw [← Bool.not_eq_true, beq_iff_eq]; rw [← Bool.not_eq_true, beq_iff_eq] at he; exact fun e => he e.symm
        have HE := Lib.hid he
        clear he
        go_wp2
        go_round
        case rel => exact ⟨k + 1, by omega, by go_num, Lib.hid (by rw [HT.out, List.any_append, H.out]; simp [HE.out])⟩
        case measure => simp [intOf]; omega
    · have h1 : ¬ (k : Int) < (n : Int) := by omega
      obtain rfl : k = n := by omega
      go_wp2
      go_ret
      exact ⟨ret_bool (by have := H.out; rw [HN.out, List.take_length] at this; exact this.symm), rfl⟩

theorem cells_alloc (w : World) (g : Nat) (hg : g = w.heap.size) (xs : List ByteArray) (t : TypeId) : ∀ k x, xs[k]? = some x → (w.alloc (.cells (xs.map Value.string).toArray t)).cell? ⟨g, k, none⟩ = some (.string x) := by
  intro k x hx
  subst hg
  have hb := heap_alloc_new w (.cells (xs.map Value.string).toArray t)
  simp only [World.cell?, hb]
  simp [hx]
def amgB (s : ByteArray) (xs : List ByteArray) : Bool := xs.any fun x => s.toList == x.toList
theorem amg_eq (s : ByteArray) (xs : List ByteArray) (l : List (List UInt8)) (h : xs.map (fun x => x.data.toList) = l) : l.any (fun n => s.toList == n) = amgB s xs := by
  subst h
  unfold amgB
  rw [List.any_map]
  congr 1
  funext x
  simp only [Function.comp, ByteArray.toList_eq]
theorem among_at (s : ByteArray) (xs : List ByteArray) (b : Bool) (hb : amgB s xs = b) (g c : Nat) (w : World) (t : TypeId) (hg : g = w.heap.size) (hn : xs.length ≤ 100) :
    Calls Try.prog 47 #[.string s, .slice (some ⟨g, 0, none⟩) xs.length c] (w.alloc (.cells (xs.map Value.string).toArray t)) fun e w' => e = .returned (.bool b) ∧ w.alloc (.cells (xs.map Value.string).toArray t) = w' := by
  subst hb
  exact among_any s xs g c _ hn (cells_alloc w g hg xs t)

def grp0 : List ByteArray := [(⟨#[115]⟩ : ByteArray), (⟨#[115, 101, 99]⟩ : ByteArray), (⟨#[115, 101, 99, 115]⟩ : ByteArray), (⟨#[115, 101, 99, 111, 110, 100]⟩ : ByteArray), (⟨#[115, 101, 99, 111, 110, 100, 115]⟩ : ByteArray)]
theorem amg_0 (s : ByteArray) : ([[115], [115, 101, 99], [115, 101, 99, 115], [115, 101, 99, 111, 110, 100], [115, 101, 99, 111, 110, 100, 115]] : List (List UInt8)).any (fun n => s.toList == n) = amgB s grp0 := amg_eq s grp0 _ rfl
def grp1 : List ByteArray := [(⟨#[109, 105, 110]⟩ : ByteArray), (⟨#[109, 105, 110, 115]⟩ : ByteArray), (⟨#[109, 105, 110, 117, 116, 101]⟩ : ByteArray), (⟨#[109, 105, 110, 117, 116, 101, 115]⟩ : ByteArray)]
theorem amg_1 (s : ByteArray) : ([[109, 105, 110], [109, 105, 110, 115], [109, 105, 110, 117, 116, 101], [109, 105, 110, 117, 116, 101, 115]] : List (List UInt8)).any (fun n => s.toList == n) = amgB s grp1 := amg_eq s grp1 _ rfl
def grp2 : List ByteArray := [(⟨#[104]⟩ : ByteArray), (⟨#[104, 111, 117, 114]⟩ : ByteArray), (⟨#[104, 111, 117, 114, 115]⟩ : ByteArray)]
theorem amg_2 (s : ByteArray) : ([[104], [104, 111, 117, 114], [104, 111, 117, 114, 115]] : List (List UInt8)).any (fun n => s.toList == n) = amgB s grp2 := amg_eq s grp2 _ rfl
def grp3 : List ByteArray := [(⟨#[100]⟩ : ByteArray), (⟨#[100, 97, 121]⟩ : ByteArray), (⟨#[100, 97, 121, 115]⟩ : ByteArray)]
theorem amg_3 (s : ByteArray) : ([[100], [100, 97, 121], [100, 97, 121, 115]] : List (List UInt8)).any (fun n => s.toList == n) = amgB s grp3 := amg_eq s grp3 _ rfl
def grp4 : List ByteArray := [(⟨#[119]⟩ : ByteArray), (⟨#[119, 101, 101, 107]⟩ : ByteArray), (⟨#[119, 101, 101, 107, 115]⟩ : ByteArray)]
theorem amg_4 (s : ByteArray) : ([[119], [119, 101, 101, 107], [119, 101, 101, 107, 115]] : List (List UInt8)).any (fun n => s.toList == n) = amgB s grp4 := amg_eq s grp4 _ rfl
def grp5 : List ByteArray := [(⟨#[109, 111, 110]⟩ : ByteArray), (⟨#[109, 111, 110, 116, 104]⟩ : ByteArray), (⟨#[109, 111, 110, 116, 104, 115]⟩ : ByteArray)]
theorem amg_5 (s : ByteArray) : ([[109, 111, 110], [109, 111, 110, 116, 104], [109, 111, 110, 116, 104, 115]] : List (List UInt8)).any (fun n => s.toList == n) = amgB s grp5 := amg_eq s grp5 _ rfl
def grp6 : List ByteArray := [(⟨#[121]⟩ : ByteArray), (⟨#[121, 101, 97, 114]⟩ : ByteArray), (⟨#[121, 101, 97, 114, 115]⟩ : ByteArray)]
theorem amg_6 (s : ByteArray) : ([[121], [121, 101, 97, 114], [121, 101, 97, 114, 115]] : List (List UInt8)).any (fun n => s.toList == n) = amgB s grp6 := amg_eq s grp6 _ rfl
theorem unit33_0 (s : ByteArray) (w : World)  (h0 : amgB s grp0 = true) : Calls Try.prog 33 #[.string s] w fun e w' => e = .returned (.int .i64 1) ∧ Below w.heap.size w w' := by
  have A0 := Lib.hid (fun w1 c g t hg => among_at s grp0 _ h0 g c w1 t hg (by decide))
  clear h0
  go_enter Try.func33, Try.ntmps33
  go_wp2_with fail
  refine (A0.out _ 5 _ 9 (by simp)).mono ?_
  rintro e w' ⟨rfl, rfl⟩
  clear A0
  go_wp2_with fail
  go_ret
  refine ⟨rfl, ?_⟩
  exact (Below.refl _ _).alloc (Nat.le_refl _) _
theorem unit33_1 (s : ByteArray) (w : World) (h0 : amgB s grp0 = false) (h1 : amgB s grp1 = true) : Calls Try.prog 33 #[.string s] w fun e w' => e = .returned (.int .i64 60) ∧ Below w.heap.size w w' := by
  have A0 := Lib.hid (fun w1 c g t hg => among_at s grp0 _ h0 g c w1 t hg (by decide))
  have A1 := Lib.hid (fun w1 c g t hg => among_at s grp1 _ h1 g c w1 t hg (by decide))
  clear h0 h1
  go_enter Try.func33, Try.ntmps33
  go_wp2_with fail
  refine (A0.out _ 5 _ 9 (by simp)).mono ?_
  rintro e w' ⟨rfl, rfl⟩
  clear A0
  go_wp2_with fail
  refine (A1.out _ 4 _ 9 (by simp)).mono ?_
  rintro e w' ⟨rfl, rfl⟩
  clear A1
  go_wp2_with fail
  go_ret
  refine ⟨rfl, ?_⟩
  exact ((Below.refl _ _).alloc (Nat.le_refl _) _).alloc (by first | (simp; done) | (simp; omega)) _
theorem unit33_2 (s : ByteArray) (w : World) (h0 : amgB s grp0 = false) (h1 : amgB s grp1 = false) (h2 : amgB s grp2 = true) : Calls Try.prog 33 #[.string s] w fun e w' => e = .returned (.int .i64 3600) ∧ Below w.heap.size w w' := by
  have A0 := Lib.hid (fun w1 c g t hg => among_at s grp0 _ h0 g c w1 t hg (by decide))
  have A1 := Lib.hid (fun w1 c g t hg => among_at s grp1 _ h1 g c w1 t hg (by decide))
  have A2 := Lib.hid (fun w1 c g t hg => among_at s grp2 _ h2 g c w1 t hg (by decide))
  clear h0 h1 h2
  go_enter Try.func33, Try.ntmps33
  go_wp2_with fail
  refine (A0.out _ 5 _ 9 (by simp)).mono ?_
  rintro e w' ⟨rfl, rfl⟩
  clear A0
  go_wp2_with fail
  refine (A1.out _ 4 _ 9 (by simp)).mono ?_
  rintro e w' ⟨rfl, rfl⟩
  clear A1
  go_wp2_with fail
  refine (A2.out _ 3 _ 9 (by simp)).mono ?_
  rintro e w' ⟨rfl, rfl⟩
  clear A2
  go_wp2_with fail
  go_ret
  refine ⟨rfl, ?_⟩
  exact (((Below.refl _ _).alloc (Nat.le_refl _) _).alloc (by first | (simp; done) | (simp; omega)) _).alloc (by first | (simp; done) | (simp; omega)) _
theorem unit33_3 (s : ByteArray) (w : World) (h0 : amgB s grp0 = false) (h1 : amgB s grp1 = false) (h2 : amgB s grp2 = false) (h3 : amgB s grp3 = true) : Calls Try.prog 33 #[.string s] w fun e w' => e = .returned (.int .i64 86400) ∧ Below w.heap.size w w' := by
  have A0 := Lib.hid (fun w1 c g t hg => among_at s grp0 _ h0 g c w1 t hg (by decide))
  have A1 := Lib.hid (fun w1 c g t hg => among_at s grp1 _ h1 g c w1 t hg (by decide))
  have A2 := Lib.hid (fun w1 c g t hg => among_at s grp2 _ h2 g c w1 t hg (by decide))
  have A3 := Lib.hid (fun w1 c g t hg => among_at s grp3 _ h3 g c w1 t hg (by decide))
  clear h0 h1 h2 h3
  go_enter Try.func33, Try.ntmps33
  go_wp2_with fail
  refine (A0.out _ 5 _ 9 (by simp)).mono ?_
  rintro e w' ⟨rfl, rfl⟩
  clear A0
  go_wp2_with fail
  refine (A1.out _ 4 _ 9 (by simp)).mono ?_
  rintro e w' ⟨rfl, rfl⟩
  clear A1
  go_wp2_with fail
  refine (A2.out _ 3 _ 9 (by simp)).mono ?_
  rintro e w' ⟨rfl, rfl⟩
  clear A2
  go_wp2_with fail
  refine (A3.out _ 3 _ 9 (by simp)).mono ?_
  rintro e w' ⟨rfl, rfl⟩
  clear A3
  go_wp2_with fail
  go_ret
  refine ⟨rfl, ?_⟩
  exact ((((Below.refl _ _).alloc (Nat.le_refl _) _).alloc (by first | (simp; done) | (simp; omega)) _).alloc (by first | (simp; done) | (simp; omega)) _).alloc (by first | (simp; done) | (simp; omega)) _
theorem unit33_4 (s : ByteArray) (w : World) (h0 : amgB s grp0 = false) (h1 : amgB s grp1 = false) (h2 : amgB s grp2 = false) (h3 : amgB s grp3 = false) (h4 : amgB s grp4 = true) : Calls Try.prog 33 #[.string s] w fun e w' => e = .returned (.int .i64 604800) ∧ Below w.heap.size w w' := by
  have A0 := Lib.hid (fun w1 c g t hg => among_at s grp0 _ h0 g c w1 t hg (by decide))
  have A1 := Lib.hid (fun w1 c g t hg => among_at s grp1 _ h1 g c w1 t hg (by decide))
  have A2 := Lib.hid (fun w1 c g t hg => among_at s grp2 _ h2 g c w1 t hg (by decide))
  have A3 := Lib.hid (fun w1 c g t hg => among_at s grp3 _ h3 g c w1 t hg (by decide))
  have A4 := Lib.hid (fun w1 c g t hg => among_at s grp4 _ h4 g c w1 t hg (by decide))
  clear h0 h1 h2 h3 h4
  go_enter Try.func33, Try.ntmps33
  go_wp2_with fail
  refine (A0.out _ 5 _ 9 (by simp)).mono ?_
  rintro e w' ⟨rfl, rfl⟩
  clear A0
  go_wp2_with fail
  refine (A1.out _ 4 _ 9 (by simp)).mono ?_
  rintro e w' ⟨rfl, rfl⟩
  clear A1
  go_wp2_with fail
  refine (A2.out _ 3 _ 9 (by simp)).mono ?_
  rintro e w' ⟨rfl, rfl⟩
  clear A2
  go_wp2_with fail
  refine (A3.out _ 3 _ 9 (by simp)).mono ?_
  rintro e w' ⟨rfl, rfl⟩
  clear A3
  go_wp2_with fail
  refine (A4.out _ 3 _ 9 (by simp)).mono ?_
  rintro e w' ⟨rfl, rfl⟩
  clear A4
  go_wp2_with fail
  go_ret
  refine ⟨rfl, ?_⟩
  exact (((((Below.refl _ _).alloc (Nat.le_refl _) _).alloc (by first | (simp; done) | (simp; omega)) _).alloc (by first | (simp; done) | (simp; omega)) _).alloc (by first | (simp; done) | (simp; omega)) _).alloc (by first | (simp; done) | (simp; omega)) _
theorem unit33_5 (s : ByteArray) (w : World) (h0 : amgB s grp0 = false) (h1 : amgB s grp1 = false) (h2 : amgB s grp2 = false) (h3 : amgB s grp3 = false) (h4 : amgB s grp4 = false) (h5 : amgB s grp5 = true) : Calls Try.prog 33 #[.string s] w fun e w' => e = .returned (.int .i64 2592000) ∧ Below w.heap.size w w' := by
  have A0 := Lib.hid (fun w1 c g t hg => among_at s grp0 _ h0 g c w1 t hg (by decide))
  have A1 := Lib.hid (fun w1 c g t hg => among_at s grp1 _ h1 g c w1 t hg (by decide))
  have A2 := Lib.hid (fun w1 c g t hg => among_at s grp2 _ h2 g c w1 t hg (by decide))
  have A3 := Lib.hid (fun w1 c g t hg => among_at s grp3 _ h3 g c w1 t hg (by decide))
  have A4 := Lib.hid (fun w1 c g t hg => among_at s grp4 _ h4 g c w1 t hg (by decide))
  have A5 := Lib.hid (fun w1 c g t hg => among_at s grp5 _ h5 g c w1 t hg (by decide))
  clear h0 h1 h2 h3 h4 h5
  go_enter Try.func33, Try.ntmps33
  go_wp2_with fail
  refine (A0.out _ 5 _ 9 (by simp)).mono ?_
  rintro e w' ⟨rfl, rfl⟩
  clear A0
  go_wp2_with fail
  refine (A1.out _ 4 _ 9 (by simp)).mono ?_
  rintro e w' ⟨rfl, rfl⟩
  clear A1
  go_wp2_with fail
  refine (A2.out _ 3 _ 9 (by simp)).mono ?_
  rintro e w' ⟨rfl, rfl⟩
  clear A2
  go_wp2_with fail
  refine (A3.out _ 3 _ 9 (by simp)).mono ?_
  rintro e w' ⟨rfl, rfl⟩
  clear A3
  go_wp2_with fail
  refine (A4.out _ 3 _ 9 (by simp)).mono ?_
  rintro e w' ⟨rfl, rfl⟩
  clear A4
  go_wp2_with fail
  refine (A5.out _ 3 _ 9 (by simp)).mono ?_
  rintro e w' ⟨rfl, rfl⟩
  clear A5
  go_wp2_with fail
  go_ret
  refine ⟨rfl, ?_⟩
  exact ((((((Below.refl _ _).alloc (Nat.le_refl _) _).alloc (by first | (simp; done) | (simp; omega)) _).alloc (by first | (simp; done) | (simp; omega)) _).alloc (by first | (simp; done) | (simp; omega)) _).alloc (by first | (simp; done) | (simp; omega)) _).alloc (by first | (simp; done) | (simp; omega)) _
theorem unit33_6 (s : ByteArray) (w : World) (h0 : amgB s grp0 = false) (h1 : amgB s grp1 = false) (h2 : amgB s grp2 = false) (h3 : amgB s grp3 = false) (h4 : amgB s grp4 = false) (h5 : amgB s grp5 = false) (h6 : amgB s grp6 = true) : Calls Try.prog 33 #[.string s] w fun e w' => e = .returned (.int .i64 31536000) ∧ Below w.heap.size w w' := by
  have A0 := Lib.hid (fun w1 c g t hg => among_at s grp0 _ h0 g c w1 t hg (by decide))
  have A1 := Lib.hid (fun w1 c g t hg => among_at s grp1 _ h1 g c w1 t hg (by decide))
  have A2 := Lib.hid (fun w1 c g t hg => among_at s grp2 _ h2 g c w1 t hg (by decide))
  have A3 := Lib.hid (fun w1 c g t hg => among_at s grp3 _ h3 g c w1 t hg (by decide))
  have A4 := Lib.hid (fun w1 c g t hg => among_at s grp4 _ h4 g c w1 t hg (by decide))
  have A5 := Lib.hid (fun w1 c g t hg => among_at s grp5 _ h5 g c w1 t hg (by decide))
  have A6 := Lib.hid (fun w1 c g t hg => among_at s grp6 _ h6 g c w1 t hg (by decide))
  clear h0 h1 h2 h3 h4 h5 h6
  go_enter Try.func33, Try.ntmps33
  go_wp2_with fail
  refine (A0.out _ 5 _ 9 (by simp)).mono ?_
  rintro e w' ⟨rfl, rfl⟩
  clear A0
  go_wp2_with fail
  refine (A1.out _ 4 _ 9 (by simp)).mono ?_
  rintro e w' ⟨rfl, rfl⟩
  clear A1
  go_wp2_with fail
  refine (A2.out _ 3 _ 9 (by simp)).mono ?_
  rintro e w' ⟨rfl, rfl⟩
  clear A2
  go_wp2_with fail
  refine (A3.out _ 3 _ 9 (by simp)).mono ?_
  rintro e w' ⟨rfl, rfl⟩
  clear A3
  go_wp2_with fail
  refine (A4.out _ 3 _ 9 (by simp)).mono ?_
  rintro e w' ⟨rfl, rfl⟩
  clear A4
  go_wp2_with fail
  refine (A5.out _ 3 _ 9 (by simp)).mono ?_
  rintro e w' ⟨rfl, rfl⟩
  clear A5
  go_wp2_with fail
  refine (A6.out _ 3 _ 9 (by simp)).mono ?_
  rintro e w' ⟨rfl, rfl⟩
  clear A6
  go_wp2_with fail
  go_ret
  refine ⟨rfl, ?_⟩
  exact (((((((Below.refl _ _).alloc (Nat.le_refl _) _).alloc (by first | (simp; done) | (simp; omega)) _).alloc (by first | (simp; done) | (simp; omega)) _).alloc (by first | (simp; done) | (simp; omega)) _).alloc (by first | (simp; done) | (simp; omega)) _).alloc (by first | (simp; done) | (simp; omega)) _).alloc (by first | (simp; done) | (simp; omega)) _
theorem unit33_7 (s : ByteArray) (w : World) (h0 : amgB s grp0 = false) (h1 : amgB s grp1 = false) (h2 : amgB s grp2 = false) (h3 : amgB s grp3 = false) (h4 : amgB s grp4 = false) (h5 : amgB s grp5 = false) (h6 : amgB s grp6 = false) : Calls Try.prog 33 #[.string s] w fun e w' => e = .returned (.int .i64 0) ∧ Below w.heap.size w w' := by
  have A0 := Lib.hid (fun w1 c g t hg => among_at s grp0 _ h0 g c w1 t hg (by decide))
  have A1 := Lib.hid (fun w1 c g t hg => among_at s grp1 _ h1 g c w1 t hg (by decide))
  have A2 := Lib.hid (fun w1 c g t hg => among_at s grp2 _ h2 g c w1 t hg (by decide))
  have A3 := Lib.hid (fun w1 c g t hg => among_at s grp3 _ h3 g c w1 t hg (by decide))
  have A4 := Lib.hid (fun w1 c g t hg => among_at s grp4 _ h4 g c w1 t hg (by decide))
  have A5 := Lib.hid (fun w1 c g t hg => among_at s grp5 _ h5 g c w1 t hg (by decide))
  have A6 := Lib.hid (fun w1 c g t hg => among_at s grp6 _ h6 g c w1 t hg (by decide))
  clear h0 h1 h2 h3 h4 h5 h6
  go_enter Try.func33, Try.ntmps33
  go_wp2_with fail
  refine (A0.out _ 5 _ 9 (by simp)).mono ?_
  rintro e w' ⟨rfl, rfl⟩
  clear A0
  go_wp2_with fail
  refine (A1.out _ 4 _ 9 (by simp)).mono ?_
  rintro e w' ⟨rfl, rfl⟩
  clear A1
  go_wp2_with fail
  refine (A2.out _ 3 _ 9 (by simp)).mono ?_
  rintro e w' ⟨rfl, rfl⟩
  clear A2
  go_wp2_with fail
  refine (A3.out _ 3 _ 9 (by simp)).mono ?_
  rintro e w' ⟨rfl, rfl⟩
  clear A3
  go_wp2_with fail
  refine (A4.out _ 3 _ 9 (by simp)).mono ?_
  rintro e w' ⟨rfl, rfl⟩
  clear A4
  go_wp2_with fail
  refine (A5.out _ 3 _ 9 (by simp)).mono ?_
  rintro e w' ⟨rfl, rfl⟩
  clear A5
  go_wp2_with fail
  refine (A6.out _ 3 _ 9 (by simp)).mono ?_
  rintro e w' ⟨rfl, rfl⟩
  clear A6
  go_wp2_with fail
  go_ret
  refine ⟨rfl, ?_⟩
  exact (((((((Below.refl _ _).alloc (Nat.le_refl _) _).alloc (by first | (simp; done) | (simp; omega)) _).alloc (by first | (simp; done) | (simp; omega)) _).alloc (by first | (simp; done) | (simp; omega)) _).alloc (by first | (simp; done) | (simp; omega)) _).alloc (by first | (simp; done) | (simp; omega)) _).alloc (by first | (simp; done) | (simp; omega)) _
theorem unit33_any (s : ByteArray) (w : World) : Calls Try.prog 33 #[.string s] w fun e w' => e = .returned (.int .i64 (unitF s)) ∧ Below w.heap.size w w' := by
  unfold unitF unitRows
  cases h0 : amgB s grp0 with
  | true => rw [show unitIn s.toList _ = 1 from by simp only [unitIn, amg_0, h0, if_true, if_false, Bool.false_eq_true]]; exact unit33_0 s w h0
  | false =>
  cases h1 : amgB s grp1 with
  | true => rw [show unitIn s.toList _ = 60 from by simp only [unitIn, amg_0, amg_1, h0, h1, if_true, if_false, Bool.false_eq_true]]; exact unit33_1 s w h0 h1
  | false =>
  cases h2 : amgB s grp2 with
  | true => rw [show unitIn s.toList _ = 3600 from by simp only [unitIn, amg_0, amg_1, amg_2, h0, h1, h2, if_true, if_false, Bool.false_eq_true]]; exact unit33_2 s w h0 h1 h2
  | false =>
  cases h3 : amgB s grp3 with
  | true => rw [show unitIn s.toList _ = 86400 from by simp only [unitIn, amg_0, amg_1, amg_2, amg_3, h0, h1, h2, h3, if_true, if_false, Bool.false_eq_true]]; exact unit33_3 s w h0 h1 h2 h3
  | false =>
  cases h4 : amgB s grp4 with
  | true => rw [show unitIn s.toList _ = 604800 from by simp only [unitIn, amg_0, amg_1, amg_2, amg_3, amg_4, h0, h1, h2, h3, h4, if_true, if_false, Bool.false_eq_true]]; exact unit33_4 s w h0 h1 h2 h3 h4
  | false =>
  cases h5 : amgB s grp5 with
  | true => rw [show unitIn s.toList _ = 2592000 from by simp only [unitIn, amg_0, amg_1, amg_2, amg_3, amg_4, amg_5, h0, h1, h2, h3, h4, h5, if_true, if_false, Bool.false_eq_true]]; exact unit33_5 s w h0 h1 h2 h3 h4 h5
  | false =>
  cases h6 : amgB s grp6 with
  | true => rw [show unitIn s.toList _ = 31536000 from by simp only [unitIn, amg_0, amg_1, amg_2, amg_3, amg_4, amg_5, amg_6, h0, h1, h2, h3, h4, h5, h6, if_true, if_false, Bool.false_eq_true]]; exact unit33_6 s w h0 h1 h2 h3 h4 h5 h6
  | false =>
  rw [show unitIn s.toList _ = 0 from by simp only [unitIn, amg_0, amg_1, amg_2, amg_3, amg_4, amg_5, amg_6, h0, h1, h2, h3, h4, h5, h6, if_true, if_false, Bool.false_eq_true]]; exact unit33_7 s w h0 h1 h2 h3 h4 h5 h6
end Go.Proofs.Ytfldpaceebemhaa
