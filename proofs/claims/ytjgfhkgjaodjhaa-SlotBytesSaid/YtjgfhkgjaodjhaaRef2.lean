/-
  The walk of the reference's Encode.
-/
import Derived.Test.YtjgfhkgjaodjhaaRef
import Derived.Lib.SmallJoins
namespace Go.Proofs.Ytjgfhkgjaodjhaa
open Go.RowKit

theorem be4_length (n : Int) : (be4 n).length = 4 := rfl
theorem be4_one (n : Int) : ∀ u ∈ be4 n, u.oneCell' = true := by intro u hu; simp [be4] at hu; rcases hu with rfl | rfl | rfl | rfl <;> rfl

theorem ownsRow_be4 {w : World} {base : Nat} (hb : base ≤ w.heap.size) (n : Int) :
    (w.alloc (.cells #[.int .u8 (n / 16777216), .int .u8 (n / 65536 % 256), .int .u8 (n / 256 % 256), .int .u8 (n % 256)] 5)).ownsRow base 5 1 (.slice (some ⟨w.heap.size, 0, none⟩) 4 4) 4 (be4 n) := by
  have := World.ownsRow_lit (base := base) (e := 5) (size := 1) w #[.int .u8 (n / 16777216), .int .u8 (n / 65536 % 256), .int .u8 (n / 256 % 256), .int .u8 (n % 256)] 4 hb (by simp [maxLen]) rfl
  exact this

theorem grownBy_of_below {w w' : World} (hb : Below w.heap.size w w') : w.grownBy w' none := ⟨hb.os, hb.tape, hb.output, hb.size, fun i hi _ => hb.block i hi⟩
theorem own_below {w w' : World} {base size n : Nat} {e : TypeId} {v : Value} {xs : List Value} (h : w.ownsRow base e size v n xs) (hb : Below w.heap.size w w') : w'.ownsRow base e size v n xs :=
  h.kept (grownBy_of_below hb) (by cases v.ownBlock <;> simp)

theorem four_own (n : Int) (h0 : 0 ≤ n) (h1 : n ≤ 4294967295) (w : World) :
    Calls Try.prog 21 #[.int .i64 n] w fun e w' => ∃ g, e = .returned (.slice (some ⟨g, 0, none⟩) 4 4) ∧ w'.ownsRow w.heap.size 5 1 (.slice (some ⟨g, 0, none⟩) 4 4) 4 (be4 n) ∧ Below w.heap.size w w' :=
  (four_any n h0 h1 w).mono fun _ _ ⟨h, hw⟩ => ⟨_, h, by rw [hw]; exact ownsRow_be4 (Nat.le_refl _) n, by rw [hw]; exact (Below.refl _ _).alloc (Nat.le_refl _) _⟩

set_option maxHeartbeats 1000000 in
theorem renc_any (a n : Int) (w : World) :
    Calls Try.prog 17 #[.agg #[.int .i64 a, .int .i64 n]] w fun e w' => ∃ gg c, e = .returned (.slice (some ⟨gg, 0, none⟩) 12 c) ∧ w'.ownsRow w.heap.size 5 1 (.slice (some ⟨gg, 0, none⟩) 12 c) 12 (enc a n) ∧ Below w.heap.size w w' := by
  obtain ⟨m1, m2⟩ := clampAt_in a
  obtain ⟨n1, n2⟩ := uOf_in n
  have hu : IntKind.u64.wrap n = uOf n := IntKind.wrap_u64 n
  have c1 : (if 4294967295 < a then (4294967295 : Int) else a) = min a 4294967295 := by omega
  have c2 : (if 0 < min a 4294967295 then min a 4294967295 else 0) = clampAt a := by unfold clampAt; omega
  have hand : bits .and .u64 (uOf n) 4294967295 = uOf n % 4294967296 := and_low32 _ (by omega) (by omega)
  obtain ⟨i0, hi0, hz0, hz1, hz2⟩ := info_parts Try.info5
  have hd1 : 0 ≤ uOf n / 4294967296 := by omega
  have hd2 : uOf n / 4294967296 ≤ 4294967295 := by omega
  have hd3 : 0 ≤ uOf n % 4294967296 := by omega
  have hd4 : uOf n % 4294967296 ≤ 4294967295 := by omega
  go_enter Try.func17, Try.ntmps17
  go_wp2_with fail
  refine (four_own _ m1 m2 _).mono ?_
  rintro e w1 ⟨g1, rfl, o1, b1⟩
  have b1' : Below w.heap.size w w1 := ((Below.refl _ _).alloc (Nat.le_refl _) _).trans (b1.mono (by simp))
  have o1' := Joins.ownsRow_le (base' := w.heap.size) o1 (by simp)
  have O1 := Lib.hid o1'
  have hcn : w1.cell? ⟨w.heap.size, 1, none⟩ = some (.int .i64 n) := (b1.cell (p := ⟨w.heap.size, 1, none⟩) (by simp)).trans (by simp [go_sem])
  clear o1 o1' b1
  go_wp2_with fail
  refine (four_own _ hd1 hd2 _).mono ?_
  rintro e w2 ⟨g2, rfl, o2, b2⟩
  have O2 := Lib.hid o2
  have P1 := Lib.hid (own_below O1.out b2)
  have b2' := b1'.trans (b2.mono b1'.size)
  clear O1 o2
  go_wp2_with (at_builtin; refine wpList_append_lies _ (by rfl) _ _ _ (by rfl) w.heap.size 5 i0 _ 1 1 Try.underlying30 hi0 hz0 hz1 hz2 rfl (by omega) _ 4 (be4 (clampAt a)) (by rfl) P1.out ⟨g2, 0, none⟩ 4 4 (be4 (uOf n / 4294967296)) (by rfl) (by rfl) (O2.out.cells rfl) (be4_one _) (by omega) (by simp [maxLen]) (by omega) b2'.size w2.heap.size rfl ?_; intro gg1 cp1 w3 hown3 hgrow3 hat3 hlt3; have H3 := Lib.hid (And.intro hown3 (And.intro hgrow3 hat3)); clear hown3 hgrow3 hat3)
  go_wp2_with fail
  obtain ⟨hown3, hgrow3, hat3⟩ := H3.out
  have b3' : Below w.heap.size w w3 := b2'.grown hgrow3 b2'.size (fun k hk => (P1.out.lt k hk).1)
  refine (four_own _ hd3 hd4 _).mono ?_
  rintro e w4 ⟨g4, rfl, o4, b4⟩
  have O4 := Lib.hid o4
  have P3 := Lib.hid (own_below hown3 b4)
  have b4' := b3'.trans (b4.mono b3'.size)
  clear H3 o4 hown3 hgrow3 hat3 O2 P1
  go_wp2_with (at_builtin; refine wpList_append_lies _ (by rfl) _ _ _ (by rfl) w.heap.size 5 i0 _ 1 1 Try.underlying30 hi0 hz0 hz1 hz2 rfl (by omega) _ 8 (be4 (clampAt a) ++ be4 (uOf n / 4294967296)) (by rfl) P3.out ⟨g4, 0, none⟩ 4 4 (be4 (uOf n % 4294967296)) (by rfl) (by rfl) (O4.out.cells rfl) (be4_one _) (by omega) (by simp [maxLen]) (by omega) b4'.size w4.heap.size rfl ?_; intro gg5 cp5 w5 hown5 hgrow5 hat5 hlt5; have H5 := Lib.hid (And.intro hown5 (And.intro hgrow5 hat5)); clear hown5 hgrow5 hat5)
  go_ret
  obtain ⟨hown5, hgrow5, hat5⟩ := H5.out
  exact ⟨gg5, cp5, rfl, by rw [enc_eq]; exact hown5, b4'.grown hgrow5 b4'.size (fun k hk => (P3.out.lt k hk).1)⟩
end Go.Proofs.Ytjgfhkgjaodjhaa
