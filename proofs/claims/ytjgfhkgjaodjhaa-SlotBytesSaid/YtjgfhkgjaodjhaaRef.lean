/-
  The walks of the references: Four, FromFour, Encode.
-/
import Derived.Test.YtjgfhkgjaodjhaaEnc
namespace Go.Proofs.Ytjgfhkgjaodjhaa
open Go.RowKit

def be4 (n : Int) : List Value := [.int .u8 (n / 16777216), .int .u8 (n / 65536 % 256), .int .u8 (n / 256 % 256), .int .u8 (n % 256)]

theorem val_u8 {a b : Int} (h : a = b) : Value.int .u8 a = Value.int .u8 b := by rw [h]

theorem enc_eq (a n : Int) : enc a n = be4 (clampAt a) ++ be4 (uOf n / 4294967296) ++ be4 (uOf n % 4294967296) := by
  have h := uOf_in n
  simp only [enc, be4, beTake, byteOf, List.nil_append, List.cons_append]
  simp only [show (8 * (((4 : Nat) : Int) - 1 - ((0 : Nat) : Int))).toNat = 24 from rfl, show (8 * (((4 : Nat) : Int) - 1 - ((1 : Nat) : Int))).toNat = 16 from rfl,
    show (8 * (((4 : Nat) : Int) - 1 - ((2 : Nat) : Int))).toNat = 8 from rfl, show (8 * (((4 : Nat) : Int) - 1 - ((3 : Nat) : Int))).toNat = 0 from rfl,
    show (8 * (((8 : Nat) : Int) - 1 - ((0 : Nat) : Int))).toNat = 56 from rfl, show (8 * (((8 : Nat) : Int) - 1 - ((1 : Nat) : Int))).toNat = 48 from rfl,
    show (8 * (((8 : Nat) : Int) - 1 - ((2 : Nat) : Int))).toNat = 40 from rfl, show (8 * (((8 : Nat) : Int) - 1 - ((3 : Nat) : Int))).toNat = 32 from rfl,
    show (8 * (((8 : Nat) : Int) - 1 - ((4 : Nat) : Int))).toNat = 24 from rfl, show (8 * (((8 : Nat) : Int) - 1 - ((5 : Nat) : Int))).toNat = 16 from rfl,
    show (8 * (((8 : Nat) : Int) - 1 - ((6 : Nat) : Int))).toNat = 8 from rfl, show (8 * (((8 : Nat) : Int) - 1 - ((7 : Nat) : Int))).toNat = 0 from rfl]
  simp only [show (2 : Int) ^ 56 = 72057594037927936 from rfl, show (2 : Int) ^ 48 = 281474976710656 from rfl, show (2 : Int) ^ 40 = 1099511627776 from rfl, show (2 : Int) ^ 32 = 4294967296 from rfl,
    show (2 : Int) ^ 24 = 16777216 from rfl, show (2 : Int) ^ 16 = 65536 from rfl, show (2 : Int) ^ 8 = 256 from rfl, show (2 : Int) ^ 0 = 1 from rfl]
  have hc := clampAt_in a
  simp only [List.cons.injEq, Value.int.injEq, true_and, and_true]
  omega

theorem or64 (k : Nat) (p x y : Int) (hp : (2 : Int) ^ k = p) (hx0 : 0 ≤ x) (hy0 : 0 ≤ y) (hd : x % p = 0) (hy : y < p) (hs : x + y ≤ 9223372036854775807) : bits .or .i64 x y = x + y := by
  obtain ⟨x, rfl⟩ := Int.eq_ofNat_of_zero_le hx0
  obtain ⟨y, rfl⟩ := Int.eq_ofNat_of_zero_le hy0
  obtain ⟨p, rfl⟩ : ∃ q : Nat, p = q := ⟨2 ^ k, by rw [← hp]; simp⟩
  have hp' : 2 ^ k = p := by have : ((2 ^ k : Nat) : Int) = p := by simpa using hp
                             omega
  have hd' : x % p = 0 := by have : ((x % p : Nat) : Int) = 0 := by simpa using hd
                             omega
  have hor : x ||| y = x + y := by
    have hm : x = x / p * p := by have := Nat.div_add_mod x p; rw [hd'] at this; rw [Nat.mul_comm]; omega
    rw [hm, ← hp', ← Nat.shiftLeft_eq, Nat.shiftLeft_add_eq_or_of_lt (by rw [hp']; omega)]
  show IntKind.i64.wrap ((BitVec.ofInt 64 (x : Int) ||| BitVec.ofInt 64 (y : Int)).toNat : Int) = _
  rw [BitVec.toNat_or, BitVec.ofInt_natCast, BitVec.ofInt_natCast, BitVec.toNat_ofNat, BitVec.toNat_ofNat, Nat.mod_eq_of_lt (by omega), Nat.mod_eq_of_lt (by omega), hor, IntKind.wrap_i64]
  omega

theorem oru64 (k : Nat) (p x y : Int) (hp : (2 : Int) ^ k = p) (hx0 : 0 ≤ x) (hy0 : 0 ≤ y) (hd : x % p = 0) (hy : y < p) (hs : x + y ≤ 18446744073709551615) : bits .or .u64 x y = x + y := by
  obtain ⟨x, rfl⟩ := Int.eq_ofNat_of_zero_le hx0
  obtain ⟨y, rfl⟩ := Int.eq_ofNat_of_zero_le hy0
  obtain ⟨p, rfl⟩ : ∃ q : Nat, p = q := ⟨2 ^ k, by rw [← hp]; simp⟩
  have hp' : 2 ^ k = p := by have : ((2 ^ k : Nat) : Int) = p := by simpa using hp
                             omega
  have hd' : x % p = 0 := by have : ((x % p : Nat) : Int) = 0 := by simpa using hd
                             omega
  have hor : x ||| y = x + y := by
    have hm : x = x / p * p := by have := Nat.div_add_mod x p; rw [hd'] at this; rw [Nat.mul_comm]; omega
    rw [hm, ← hp', ← Nat.shiftLeft_eq, Nat.shiftLeft_add_eq_or_of_lt (by rw [hp']; omega)]
  show IntKind.u64.wrap ((BitVec.ofInt 64 (x : Int) ||| BitVec.ofInt 64 (y : Int)).toNat : Int) = _
  rw [BitVec.toNat_or, BitVec.ofInt_natCast, BitVec.ofInt_natCast, BitVec.toNat_ofNat, BitVec.toNat_ofNat, Nat.mod_eq_of_lt (by omega), Nat.mod_eq_of_lt (by omega), hor, IntKind.wrap_u64]
  omega

theorem four_any (n : Int) (h0 : 0 ≤ n) (h1 : n ≤ 4294967295) (w : World) :
    Calls Try.prog 21 #[.int .i64 n] w fun e w' => e = .returned (.slice (some ⟨w.heap.size, 0, none⟩) 4 4) ∧ w' = w.alloc (.cells #[.int .u8 (n / 16777216), .int .u8 (n / 65536 % 256), .int .u8 (n / 256 % 256), .int .u8 (n % 256)] 5) := by
  go_enter Try.func21, Try.ntmps21
  go_wp2
  go_ret
  exact ⟨rfl, rfl⟩

theorem fromFour_any (g o c l : Nat) (a0 a1 a2 a3 : Int) (w : World) (hl : 4 ≤ l)
    (h0 : w.cell? ⟨g, o, none⟩ = some (.int .u8 a0)) (h1 : w.cell? ⟨g, o + 1, none⟩ = some (.int .u8 a1)) (h2 : w.cell? ⟨g, o + 2, none⟩ = some (.int .u8 a2)) (h3 : w.cell? ⟨g, o + 3, none⟩ = some (.int .u8 a3))
    (b0 : 0 ≤ a0 ∧ a0 ≤ 255) (b1 : 0 ≤ a1 ∧ a1 ≤ 255) (b2 : 0 ≤ a2 ∧ a2 ≤ 255) (b3 : 0 ≤ a3 ∧ a3 ≤ 255) :
    Calls Try.prog 20 #[.slice (some ⟨g, o, none⟩) l c] w fun e w' => e = .returned (.int .i64 (a0 * 16777216 + a1 * 65536 + a2 * 256 + a3)) ∧ Below w.heap.size w w' := by
  have e1 := or64 24 16777216 (a0 * 16777216) (a1 * 65536) rfl (by omega) (by omega) (by omega) (by omega) (by omega)
  have e2 := or64 16 65536 (a0 * 16777216 + a1 * 65536) (a2 * 256) rfl (by omega) (by omega) (by omega) (by omega) (by omega)
  have e3 := or64 8 256 (a0 * 16777216 + a1 * 65536 + a2 * 256) a3 rfl (by omega) (by omega) (by omega) (by omega) (by omega)
  have E : bits .or .i64 (bits .or .i64 (bits .or .i64 (a0 * 16777216) (a1 * 65536)) (a2 * 256)) a3 = a0 * 16777216 + a1 * 65536 + a2 * 256 + a3 := by rw [e1, e2, e3]
  have HE := Lib.hid E
  clear E e1 e2 e3
  go_enter Try.func20, Try.ntmps20
  go_wp2
  have g0 : (0 : Int) < l := by omega
  have g1 : (1 : Int) < l := by omega
  have g2 : (2 : Int) < l := by omega
  have g3 : (3 : Int) < l := by omega
  go_quiet (fail)
  go_wp2
  go_ret
  exact ⟨ret_int HE.out, below_drewN (Below.refl _ _) _⟩
end Go.Proofs.Ytjgfhkgjaodjhaa
