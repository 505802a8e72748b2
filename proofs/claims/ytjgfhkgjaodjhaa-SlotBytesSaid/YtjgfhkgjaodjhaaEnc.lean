/-
  The walks of slot.Encode and of its reference.
-/
import Derived.Test.YtjgfhkgjaodjhaaLays
import Derived.Test.YtjgfhkgjaodjhaaWalkA
import Derived.RegionCalls
import Derived.Deep.RegionWith
namespace Go.Proofs.Ytjgfhkgjaodjhaa
open Go.RowKit

/-- what stands between two calls of lays -/
def St (w0 : World) (g base n : Nat) (xs : List Value) (v : Value) (wr : World) : Prop :=
  wr.cell? ⟨g, 0, none⟩ = some v ∧ wr.ownsRow base 5 1 v n xs ∧ wr.frozen? ⟨g, 0, none⟩ = false ∧ v.ownBlock ≠ some g ∧ g < wr.heap.size ∧ base ≤ wr.heap.size ∧ Below g w0 wr ∧
    (∀ j, j ≠ 0 → wr.cell? ⟨g, j, none⟩ = w0.cell? ⟨g, j, none⟩) ∧ (v = .slice none 0 0 ∨ ∃ gg c, v = .slice (some ⟨gg, 0, none⟩) n c) ∧ (∀ q, v.ownBlock = some q → g ≤ q)

theorem lays_st (g base many n : Nat) (v : Value) (xs : List Value) (N : Int) (hm : many ≤ 8) (hn : n ≤ 1000) (h0 : 0 ≤ N) (h1 : N ≤ 18446744073709551615) (w0 w : World) (h : St w0 g base n xs v w) :
    Calls Try.prog 18 #[.pointer (some ⟨g, 0, none⟩), .int .u64 N, .int .i64 many] w fun e w' => e = .returned (.tuple #[]) ∧ ∃ v', St w0 g base (n + many) (xs ++ beTake many N many) v' w' := by
  obtain ⟨a1, a2, a3, a4, a5, a6, a7, a8, a9, a10⟩ := h
  refine (lays_any g base many n v xs N hm hn h0 h1 w ⟨0, v, Nat.zero_le _, by simp, a1, by simpa [beTake] using a2, a3, a4, a5, a6, Below.refl _ _, fun _ _ => rfl, by simpa using a9, a10⟩).mono ?_
  rintro e w' ⟨he, k, v', b0, bk, b1, b2, b3, b4, b5, b6, b7, b8, b9, b10⟩
  obtain rfl : k = many := by injection bk; omega
  exact ⟨he, v', b1, b2, b3, b4, b5, b6, a7.trans b7, fun j hj => (b8 j hj).trans (a8 j hj), b9, b10⟩

def clampAt (a : Int) : Int := max 0 (min a 4294967295)

theorem ret_int {k : IntKind} {a b : Int} (h : a = b) : Ending.returned (.int k a) = .returned (.int k b) := by rw [h]

theorem at_any (g : Nat) (a : Int) (w : World) (h : w.cell? ⟨g, 1, none⟩ = some (.int .i64 a)) :
    Calls Try.prog 19 #[.pointer (some ⟨g, 0, none⟩)] w fun e w' => e = .returned (.int .u64 (clampAt a)) ∧ w' = w := by
  go_enter Try.func19, Try.ntmps19
  go_wp2
  all_goals
    go_ret
    exact ⟨ret_int (by unfold clampAt; omega), rfl⟩

theorem clampAt_in (a : Int) : 0 ≤ clampAt a ∧ clampAt a ≤ 4294967295 := by unfold clampAt; omega

/-- a number of 64 bits without its sign -/
def uOf (n : Int) : Int := n % 18446744073709551616

theorem St.drew {w0 wr : World} {g base n : Nat} {xs : List Value} {v : Value} (h : St w0 g base n xs v wr) : St w0 g base n xs v wr.drew := by
  obtain ⟨a1, a2, a3, a4, a5, a6, a7, a8, a9, a10⟩ := h
  exact ⟨a1, a2, a3, a4, a5, a6, a7.drew, a8, a9, a10⟩

/-- twelve bytes of a point -/
def enc (a n : Int) : List Value := beTake 4 (clampAt a) 4 ++ beTake 8 (uOf n) 8

theorem uOf_in (n : Int) : 0 ≤ uOf n ∧ uOf n ≤ 18446744073709551615 := by unfold uOf; omega

theorem St.start (w : World) (a n : Int) (W1 : World) (hW : W1 = (w.alloc (.cells #[.int .i64 a, .int .i64 n] 29)).alloc (.cells #[.slice none 0 0, .int .i64 a, .int .i64 n] 42)) :
    St W1 (w.heap.size + 1) w.heap.size 0 [] (.slice none 0 0) W1 ∧ W1.cell? ⟨w.heap.size + 1, 1, none⟩ = some (.int .i64 a) ∧ W1.cell? ⟨w.heap.size + 1, 2, none⟩ = some (.int .i64 n) ∧ Below w.heap.size w W1 := by
  subst hW
  refine ⟨⟨by simp [go_sem], World.ownsRow_nil _ _ _ _, by simp [go_sem], by simp [Value.ownBlock], by simp, by simp; omega, Below.refl _ _, fun _ _ => rfl, .inl rfl, fun q hq => by simp [Value.ownBlock] at hq⟩, by simp [go_sem], by simp [go_sem], ?_⟩
  exact ((Below.refl _ _).alloc (Nat.le_refl _) _).alloc (by simp) _

theorem enc_any (a n : Int) (hn : I64 n) (w : World) :
    Calls Try.prog 14 #[.agg #[.int .i64 a, .int .i64 n]] w fun e w' => ∃ gg c, e = .returned (.slice (some ⟨gg, 0, none⟩) 12 c) ∧ w'.ownsRow w.heap.size 5 1 (.slice (some ⟨gg, 0, none⟩) 12 c) 12 (enc a n) ∧ Below w.heap.size w w' := by
  obtain ⟨m1, m2⟩ := clampAt_in a
  obtain ⟨n1, n2⟩ := uOf_in n
  have hu : IntKind.u64.wrap n = uOf n := IntKind.wrap_u64 n
  go_enter Try.func14, Try.ntmps14
  go_wp2
  obtain ⟨W1, hW⟩ : ∃ W1, W1 = (w.alloc (.cells #[.int .i64 a, .int .i64 n] 29)).alloc (.cells #[.slice none 0 0, .int .i64 a, .int .i64 n] 42) := ⟨_, rfl⟩
  obtain ⟨s0, s1, s2, s3⟩ := St.start w a n W1 hW
  rw [← hW]
  clear hW
  have S0 := Lib.hid s0
  clear s0
  go_region_with ((first | (go_at_call 19; refine (at_any _ a _ (by simpa [go_sem] using s1)).mono ?_; rintro e w' ⟨rfl, rfl⟩) | (go_at_call 18; refine (lays_st _ w.heap.size 4 0 _ [] _ (by omega) (by omega) m1 (by omega) W1 _ S0.out.drew).mono ?_; rintro e w2 ⟨rfl, v1, hS1⟩; have S1 := Lib.hid hS1; clear hS1)))
  all_goals
    have t2 : w2.cell? ⟨w.heap.size + 1, 2, none⟩ = some (.int .i64 n) := (S1.out.2.2.2.2.2.2.2.1 2 (by omega)).trans s2
    go_wp2
    go_region_with ((go_at_call 18; refine (lays_st _ w.heap.size 8 4 _ _ _ (by omega) (by omega) n1 n2 W1 _ S1.out.drew).mono ?_; rintro e w3 ⟨rfl, v2, hS2⟩; have S2 := Lib.hid hS2; clear hS2))
    all_goals
      obtain ⟨b1, b2, b3, b4, b5, b6, b7, b8, b9, b10⟩ := S2.out
      have hex : ∃ gg c, v2 = .slice (some ⟨gg, 0, none⟩) 12 c := by
        rcases b9 with h | ⟨gg, c, h⟩
        · exfalso
          have := b2.1
          simp [beTake_length] at this
          obtain ⟨_, _, hf, _⟩ := b2.form (by omega)
          rw [h] at hf
          cases hf
        · exact ⟨gg, c, h⟩
      clear S1 S2 S0 b3 b4 b5 b6 b8 b9 b10
      obtain ⟨gg, c, hv⟩ := hex
      rw [hv] at b1 b2
      have B2 := Lib.hid b2
      clear b2 hv
      go_wp2
      go_ret
      exact ⟨gg, c, rfl, by simpa [enc] using B2.out, s3.trans (b7.mono (by omega))⟩
end Go.Proofs.Ytjgfhkgjaodjhaa
