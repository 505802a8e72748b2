/-
  The walks of Four, FromFour, number.
-/
import Derived.Test.YtcfcdajglfipeaaRSize
import Derived.Test.YtcfcdajglfipeaaPhi
import Derived.Test.YtcfcdajglfipeaaApp
import Derived.Deep.AppendLies
import Derived.Lib.SmallJoins
namespace Go.Proofs.Ytcfcdajglfipeaa
open Go.RowKit

theorem Try.info5 : (Try.prog.info? 5).map (fun i => (i.zero, i.size, i.bytes)) = some (some (.int .u8 0), 1, 1) := by kernel_rfl
theorem Try.info3 : (Try.prog.info? 3).map (fun i => (i.zero, i.size, i.bytes)) = some (some (.int .i64 0), 1, 8) := by kernel_rfl

def be4 (n : Int) : List Value := [.int .u8 (n / 16777216), .int .u8 (n / 65536 % 256), .int .u8 (n / 256 % 256), .int .u8 (n % 256)]
theorem be4_length (n : Int) : (be4 n).length = 4 := rfl
theorem be4_one (n : Int) : ∀ u ∈ be4 n, u.oneCell' = true := by intro u hu; simp [be4] at hu; rcases hu with rfl | rfl | rfl | rfl <;> rfl

theorem ownsRow_be4 {w : World} {base : Nat} (hb : base ≤ w.heap.size) (n : Int) :
    (w.alloc (.cells #[.int .u8 (n / 16777216), .int .u8 (n / 65536 % 256), .int .u8 (n / 256 % 256), .int .u8 (n % 256)] 5)).ownsRow base 5 1 (.slice (some ⟨w.heap.size, 0, none⟩) 4 4) 4 (be4 n) := by
  have := World.ownsRow_lit (base := base) (e := 5) (size := 1) w #[.int .u8 (n / 16777216), .int .u8 (n / 65536 % 256), .int .u8 (n / 256 % 256), .int .u8 (n % 256)] 4 hb (by simp [maxLen]) rfl
  exact this

theorem grownBy_of_below {w w' : World} (hb : Below w.heap.size w w') : w.grownBy w' none := ⟨hb.os, hb.tape, hb.output, hb.size, fun i hi _ => hb.block i hi⟩
theorem own_below {w w' : World} {base size n : Nat} {e : TypeId} {v : Value} {xs : List Value} (h : w.ownsRow base e size v n xs) (hb : Below w.heap.size w w') : w'.ownsRow base e size v n xs :=
  h.kept (grownBy_of_below hb) (by cases v.ownBlock <;> simp)

theorem or64 (k : Nat) (p x y : Int) (hp : (2 : Int) ^ k = p) (hx0 : 0 ≤ x) (hy0 : 0 ≤ y) (hd : x % p = 0) (hy : y < p) (hs : x + y ≤ 9223372036854775807) : bits .or .i64 x y = x + y := by
  obtain ⟨x, rfl⟩ := Int.eq_ofNat_of_zero_le hx0
  obtain ⟨y, rfl⟩ := Int.eq_ofNat_of_zero_le hy0
  obtain ⟨p, rfl⟩ : ∃ q : Nat, p = q := ⟨2 ^ k, by rw [← hp]; simp⟩
  have hp' : 2 ^ k = p := by have : ((2 ^ k : Nat) : Int) = p := by simpa using hp
                             omega
  have hd' : x % p = 0 := by have : ((x % p : Nat) : Int) = 0 := by simpa using hd
                             omega
  have hor : x ||| y = x + y := by
    have hm : x = x / p * p := by have := Nat.div_add_mod x p; rw [hd'] at this; rw [Nat.mul_comm]; omega
    rw [hm, ← hp', ← Nat.shiftLeft_eq, Nat.shiftLeft_add_eq_or_of_lt (by rw [hp']; omega)]
  show IntKind.i64.wrap ((BitVec.ofInt 64 (x : Int) ||| BitVec.ofInt 64 (y : Int)).toNat : Int) = _
  rw [BitVec.toNat_or, BitVec.ofInt_natCast, BitVec.ofInt_natCast, BitVec.toNat_ofNat, BitVec.toNat_ofNat, Nat.mod_eq_of_lt (by omega), Nat.mod_eq_of_lt (by omega), hor, IntKind.wrap_i64]
  omega

theorem four_any (n : Int) (h0 : 0 ≤ n) (h1 : n ≤ 4294967295) (w : World) :
    Calls Try.prog 23 #[.int .i64 n] w fun e w' => e = .returned (.slice (some ⟨w.heap.size, 0, none⟩) 4 4) ∧ w' = w.alloc (.cells #[.int .u8 (n / 16777216), .int .u8 (n / 65536 % 256), .int .u8 (n / 256 % 256), .int .u8 (n % 256)] 5) := by
  go_enter Try.func23, Try.ntmps23
  go_wp2
  go_ret
  exact ⟨rfl, rfl⟩
theorem four_own (n : Int) (h0 : 0 ≤ n) (h1 : n ≤ 4294967295) (w : World) :
    Calls Try.prog 23 #[.int .i64 n] w fun e w' => ∃ g, e = .returned (.slice (some ⟨g, 0, none⟩) 4 4) ∧ w'.ownsRow w.heap.size 5 1 (.slice (some ⟨g, 0, none⟩) 4 4) 4 (be4 n) ∧ Below w.heap.size w w' :=
  (four_any n h0 h1 w).mono fun _ _ ⟨h, hw⟩ => ⟨_, h, by rw [hw]; exact ownsRow_be4 (Nat.le_refl _) n, by rw [hw]; exact (Below.refl _ _).alloc (Nat.le_refl _) _⟩

theorem fromFour_any (g o c l : Nat) (a0 a1 a2 a3 : Int) (w : World) (hl : 4 ≤ l)
    (h0 : w.cell? ⟨g, o, none⟩ = some (.int .u8 a0)) (h1 : w.cell? ⟨g, o + 1, none⟩ = some (.int .u8 a1)) (h2 : w.cell? ⟨g, o + 2, none⟩ = some (.int .u8 a2)) (h3 : w.cell? ⟨g, o + 3, none⟩ = some (.int .u8 a3))
    (b0 : 0 ≤ a0 ∧ a0 ≤ 255) (b1 : 0 ≤ a1 ∧ a1 ≤ 255) (b2 : 0 ≤ a2 ∧ a2 ≤ 255) (b3 : 0 ≤ a3 ∧ a3 ≤ 255) :
    Calls Try.prog 27 #[.slice (some ⟨g, o, none⟩) l c] w fun e w' => e = .returned (.int .i64 (a0 * 16777216 + a1 * 65536 + a2 * 256 + a3)) ∧ Below w.heap.size w w' := by
  have e1 := or64 24 16777216 (a0 * 16777216) (a1 * 65536) rfl (by omega) (by omega) (by omega) (by omega) (by omega)
  have e2 := or64 16 65536 (a0 * 16777216 + a1 * 65536) (a2 * 256) rfl (by omega) (by omega) (by omega) (by omega) (by omega)
  have e3 := or64 8 256 (a0 * 16777216 + a1 * 65536 + a2 * 256) a3 rfl (by omega) (by omega) (by omega) (by omega) (by omega)
  have E : bits .or .i64 (bits .or .i64 (bits .or .i64 (a0 * 16777216) (a1 * 65536)) (a2 * 256)) a3 = a0 * 16777216 + a1 * 65536 + a2 * 256 + a3 := by rw [e1, e2, e3]
  have HE := Lib.hid E
  clear E e1 e2 e3
  go_enter Try.func27, Try.ntmps27
  go_wp2
  have g0 : (0 : Int) < l := by omega
  have g1 : (1 : Int) < l := by omega
  have g2 : (2 : Int) < l := by omega
  have g3 : (3 : Int) < l := by omega
  go_quiet (fail)
  go_wp2
  go_ret
  exact ⟨ret_int HE.out, below_drewN (Below.refl _ _) _⟩

/-- what an append leaves -/
def Grew (B : Nat) (w : World) (v : Value) (m : Nat) (xs : List Value) (v' : Value) (w' : World) : Prop :=
  w'.ownsRow B 5 1 v' m xs ∧ w.grownBy w' v.ownBlock ∧ (v.ownBlock = v'.ownBlock ∨ ∃ g, v'.ownBlock = some g ∧ w.heap.size ≤ g) ∧ (∃ g c, v' = .slice (some ⟨g, 0, none⟩) m c)

set_option maxHeartbeats 1000000 in
theorem number_any (n : Int) (h0 : 0 ≤ n) (h1 : n ≤ 4294967295) (B : Nat) (v : Value) (m : Nat) (xs : List Value) (w : World) (hm : m ≤ 1000) (hB : B ≤ w.heap.size) (hown : w.ownsRow B 5 1 v m xs) :
    Calls Try.prog 22 #[v, .int .i64 n] w fun e w' => ∃ v', e = .returned v' ∧ Grew B w v (m + 4) (xs ++ be4 n) v' w' := by
  obtain ⟨i0, hi0, hz0, hz1, hz2⟩ := info_parts Try.info5
  obtain ⟨W0, hW⟩ : ∃ W0, W0 = w.alloc (.cells #[.int .u8 (n / 16777216), .int .u8 (n / 65536 % 256), .int .u8 (n / 256 % 256), .int .u8 (n % 256)] 5) := ⟨_, rfl⟩
  have b0 : Below w.heap.size w W0 := by rw [hW]; exact (Below.refl _ _).alloc (Nat.le_refl _) _
  have o0 := own_below hown b0
  have n0 : ∀ j u, (be4 n)[j]? = some u → W0.cell? ((⟨w.heap.size, 0, none⟩ : Addr).add j) = some u := by
    rw [hW]
    exact World.news_of_block (cs := #[.int .u8 (n / 16777216), .int .u8 (n / 65536 % 256), .int .u8 (n / 256 % 256), .int .u8 (n % 256)]) (t := 5) (fr := (0, 0)) (heap_alloc_new w _)
  have O0 := Lib.hid o0
  have N0 := Lib.hid n0
  have s0 : W0.heap.size = w.heap.size + 1 := by rw [hW]; simp
  have HS := Lib.hid s0
  have hB0 : B ≤ W0.heap.size := by omega
  have HO := Lib.hid hown
  clear o0 n0 s0 hown
  go_enter Try.func22, Try.ntmps22
  go_wp2_with (at_builtin; rw [← hW]; refine wpList_append_lies _ (by rfl) _ _ _ (by rfl) B 5 i0 _ 1 1 Try.underlying31 hi0 hz0 hz1 hz2 rfl (by omega) _ m xs (by rfl) O0.out ⟨w.heap.size, 0, none⟩ 4 4 (be4 n) (by rfl) (by rfl) N0.out (be4_one _) (by omega) (by unfold maxLen; omega) (by omega) hB0 W0.heap.size rfl ?_; intro gg1 cp1 w3 hown3 hgrow3 hat3 hlt3; have H3 := Lib.hid (And.intro hown3 (And.intro hgrow3 hat3)); clear hown3 hgrow3 hat3)
  go_ret
  obtain ⟨hown3, hgrow3, hat3⟩ := H3.out
  refine ⟨_, rfl, hown3, ⟨hgrow3.os.trans b0.os, hgrow3.tape.trans b0.tape, hgrow3.output.trans b0.output, Nat.le_trans b0.size hgrow3.size, fun k hk hr => (hgrow3.block k (Nat.lt_of_lt_of_le hk b0.size) hr).trans (b0.block k hk)⟩, ?_, _, _, rfl⟩
  rcases hat3 with h | h
  · exact .inl h
  · exact .inr ⟨gg1, rfl, by rw [h, HS.out]; omega⟩
end Go.Proofs.Ytcfcdajglfipeaa
