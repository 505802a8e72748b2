/-
  The walks of both Group.
-/
import Derived.Test.YtldcbkememonaaaH2
namespace Go.Proofs.Ytldcbkememonaaa
open Go.RowKit
set_option linter.unusedVariables false
set_option linter.unusedSimpArgs false

/-- numbers that can be read -/
def RdN (xs : List Int) (a : Option Addr) (w : World) : Prop := 0 < xs.length → ∃ g o, a = some ⟨g, o, none⟩ ∧ g < w.heap.size ∧ ∀ j x, xs[j]? = some x → w.cell? ⟨g, o + j, none⟩ = some (.int .i64 x)
theorem RdN.grow {xs : List Int} {a : Option Addr} {w w' : World} (h : RdN xs a w) (hb : Grow w w') : RdN xs a w' := fun hl => by
  obtain ⟨g, o, h1, h2, h3⟩ := h hl
  exact ⟨g, o, h1, Nat.lt_of_lt_of_le h2 (Grow.size hb), fun j x hj => (Below.cell hb (p := ⟨g, o + j, none⟩) h2).trans (h3 j x hj)⟩
theorem IntsIn.rdN {xs : List Int} {v : Value} {w : World} (h : IntsIn xs v w) : ∃ a c, v = .slice a xs.length c ∧ RdN xs a w := by
  obtain ⟨a, c, rfl⟩ := h.shape
  refine ⟨a, c, rfl, fun hl => ?_⟩
  obtain ⟨g, c', e, _, hg⟩ := World.ownsRow.form h hl
  injection e with e1 _ ec
  subst e1 ec
  refine ⟨g, 0, rfl, hg, fun j x hj => ?_⟩
  have hj2 : j < xs.length := (List.getElem?_eq_some_iff.1 hj).1
  rw [Nat.zero_add, World.ownsRow.cellAt h j (by omega), List.getElem?_map, hj]
  rfl
def grpF (tx : ByteArray) (ps : List Int) (k : Int) : ByteArray :=
  if k < 0 ∨ (ps.length : Int) ≤ 2 * k + 1 then e0
  else if ps.getD (2 * k).toNat 0 < 0 ∨ ps.getD (2 * k + 1).toNat 0 < ps.getD (2 * k).toNat 0 ∨ (tx.size : Int) < ps.getD (2 * k + 1).toNat 0 then e0
  else tx.extract (ps.getD (2 * k).toNat 0).toNat (ps.getD (2 * k + 1).toNat 0).toNat
def StrP (s : ByteArray) (w : World) (e : Ending) (w' : World) : Prop := e = .returned (.string s) ∧ Grow w w'
theorem ret_str {a b : ByteArray} (h : a = b) : Ending.returned (.string a) = .returned (.string b) := by rw [h]

set_option maxHeartbeats 2000000 in
theorem group19_any (tx : ByteArray) (ps : List Int) (k : Int) (a : Option Addr) (c : Nat) (w : World) (h : RdN ps a w) (hn : ps.length ≤ 100000) (ht : tx.size ≤ 100000) (hk9 : k ≤ 9223372036854775807) : Calls Try.prog 19 #[.string tx, .slice a ps.length c, .int .i64 k] w (StrP (grpF tx ps k) w) := by
  obtain ⟨n, hN⟩ : ∃ n, n = ps.length := ⟨_, rfl⟩
  obtain ⟨R, hR⟩ : ∃ R, R = grpF tx ps k := ⟨_, rfl⟩
  rw [← hR, ← hN]
  unfold grpF at hR
  rw [← hN] at hR hn
  by_cases h1 : k < 0
  · rw [if_pos (.inl h1)] at hR
    have HR := Lib.hid hR
    clear hR hN h hk9
    go_enter Try.func19, Try.ntmps19
    go_wp2
    go_ret
    exact ⟨ret_str HR.out.symm, Grow.refl w⟩
  · by_cases h2 : (n : Int) ≤ 2 * k + 1
    · rw [if_pos (.inr h2)] at hR
      have HR := Lib.hid hR
      have h0 : (0 : Int) ≤ k := by omega
      have h2' : (n : Int) / 2 ≤ k := by omega
      have h2'' : ¬ k < (n : Int) / 2 := by omega
      clear hR hN h hk9 h2
      go_enter Try.func19, Try.ntmps19
      go_wp2
      go_ret
      exact ⟨ret_str HR.out.symm, Grow.refl w⟩
    · obtain ⟨q, rfl⟩ : ∃ q : Nat, k = q := ⟨k.toNat, by omega⟩
      have e1 : (2 * (q : Int)).toNat = 2 * q := by omega
      have e2 : (2 * (q : Int) + 1).toNat = 2 * q + 1 := by omega
      rw [if_neg (by omega), e1, e2] at hR
      have hq : 2 * q + 1 < n := by omega
      obtain ⟨g, o, rfl, hg, hc⟩ := h (by omega)
      obtain ⟨x, hx⟩ : ∃ x, ps[2 * q]? = some x := ⟨_, List.getElem?_eq_getElem (by omega)⟩
      obtain ⟨y, hy⟩ : ∃ y, ps[2 * q + 1]? = some y := ⟨_, List.getElem?_eq_getElem (by omega)⟩
      rw [show ps.getD (2 * q) 0 = x by simp [List.getD, hx], show ps.getD (2 * q + 1) 0 = y by simp [List.getD, hy]] at hR
      have x1 := hc _ _ hx
      have y1 := hc _ _ hy
      have q0 : (0 : Int) ≤ (q : Int) := by omega
      have q1 : (q : Int) ≤ 100000 := by omega
      have q2 : 2 * (q : Int) < (n : Int) := by omega
      have q3 : 2 * (q : Int) + 1 < (n : Int) := by omega
      have q4 : ¬ (n : Int) / 2 ≤ (q : Int) := by omega
      have q5 : (q : Int) < (n : Int) / 2 := by omega
      have E1 := Lib.hid e1
      have E2 := Lib.hid e2
      clear hN h hc hx hy hk9 e1 e2
      by_cases h3 : x < 0
      · rw [if_pos (.inl h3)] at hR
        have HR := Lib.hid hR
        clear hR
        have e1 := E1.out
        have e2 := E2.out
        go_enter Try.func19, Try.ntmps19
        go_wp2
        go_quiet (fail)
        go_wp2
        go_ret
        exact ⟨ret_str HR.out.symm, below_drewN (Grow.refl w) _⟩
      · by_cases h4 : y < x
        · rw [if_pos (.inr (.inl h4))] at hR
          have HR := Lib.hid hR
          clear hR
          have e1 := E1.out
          have e2 := E2.out
          go_enter Try.func19, Try.ntmps19
          go_wp2
          go_quiet (fail)
          go_wp2
          go_ret
          exact ⟨ret_str HR.out.symm, below_drewN (Grow.refl w) _⟩
        · by_cases h5 : (tx.size : Int) < y
          · rw [if_pos (.inr (.inr h5))] at hR
            have HR := Lib.hid hR
            clear hR
            have e1 := E1.out
            have e2 := E2.out
            go_enter Try.func19, Try.ntmps19
            go_wp2
            go_quiet (fail)
            go_wp2
            go_ret
            exact ⟨ret_str HR.out.symm, below_drewN (Grow.refl w) _⟩
          · rw [if_neg (by omega)] at hR
            have HR := Lib.hid hR
            obtain ⟨x', rfl⟩ : ∃ x' : Nat, x = x' := ⟨x.toNat, by omega⟩
            obtain ⟨y', rfl⟩ : ∃ y' : Nat, y = y' := ⟨y.toNat, by omega⟩
            have k3 : (x' : Int) ≤ (y' : Int) := by omega
            have k4 : (y' : Int) ≤ (tx.size : Int) := by omega
            clear hR
            have e1 := E1.out
            have e2 := E2.out
            go_enter Try.func19, Try.ntmps19
            go_wp2
            go_quiet (fail)
            go_wp2
            go_ret
            exact ⟨ret_str (by rw [HR.out]; simp), below_drewN (Grow.refl w) _⟩

set_option maxHeartbeats 2000000 in
theorem group20_any (tx : ByteArray) (ps : List Int) (k : Int) (a : Option Addr) (c : Nat) (w : World) (h : RdN ps a w) (hn : ps.length ≤ 100000) (ht : tx.size ≤ 100000) (hk9 : k ≤ 9223372036854775807) : Calls Try.prog 20 #[.string tx, .slice a ps.length c, .int .i64 k] w (StrP (grpF tx ps k) w) := by
  obtain ⟨n, hN⟩ : ∃ n, n = ps.length := ⟨_, rfl⟩
  obtain ⟨R, hR⟩ : ∃ R, R = grpF tx ps k := ⟨_, rfl⟩
  rw [← hR, ← hN]
  unfold grpF at hR
  rw [← hN] at hR hn
  by_cases h1 : k < 0
  · rw [if_pos (.inl h1)] at hR
    have HR := Lib.hid hR
    clear hR hN h hk9
    go_enter Try.func20, Try.ntmps20
    go_wp2
    go_ret
    exact ⟨ret_str HR.out.symm, Grow.refl w⟩
  · by_cases h2 : (n : Int) ≤ 2 * k + 1
    · rw [if_pos (.inr h2)] at hR
      have HR := Lib.hid hR
      have h0 : (0 : Int) ≤ k := by omega
      by_cases h6 : (1073741824 : Int) < k
      · clear hR hN h h2
        go_enter Try.func20, Try.ntmps20
        go_wp2
        go_ret
        exact ⟨ret_str HR.out.symm, Grow.refl w⟩
      · have h7 : k ≤ 1073741824 := by omega
        clear hR hN h hk9 h6
        go_enter Try.func20, Try.ntmps20
        go_wp2
        go_ret
        exact ⟨ret_str HR.out.symm, Grow.refl w⟩
    · obtain ⟨q, rfl⟩ : ∃ q : Nat, k = q := ⟨k.toNat, by omega⟩
      have e1 : (2 * (q : Int)).toNat = 2 * q := by omega
      have e2 : (2 * (q : Int) + 1).toNat = 2 * q + 1 := by omega
      rw [if_neg (by omega), e1, e2] at hR
      have hq : 2 * q + 1 < n := by omega
      obtain ⟨g, o, rfl, hg, hc⟩ := h (by omega)
      obtain ⟨x, hx⟩ : ∃ x, ps[2 * q]? = some x := ⟨_, List.getElem?_eq_getElem (by omega)⟩
      obtain ⟨y, hy⟩ : ∃ y, ps[2 * q + 1]? = some y := ⟨_, List.getElem?_eq_getElem (by omega)⟩
      rw [show ps.getD (2 * q) 0 = x by simp [List.getD, hx], show ps.getD (2 * q + 1) 0 = y by simp [List.getD, hy]] at hR
      have x1 := hc _ _ hx
      have y1 := hc _ _ hy
      have q0 : (0 : Int) ≤ (q : Int) := by omega
      have q1 : (q : Int) ≤ 100000 := by omega
      have q2 : 2 * (q : Int) < (n : Int) := by omega
      have q3 : 2 * (q : Int) + 1 < (n : Int) := by omega
      have q4 : ¬ (1073741824 : Int) < (q : Int) := by omega
      have E1 := Lib.hid e1
      have E2 := Lib.hid e2
      clear hN h hc hx hy hk9 e1 e2
      by_cases h3 : x < 0
      · rw [if_pos (.inl h3)] at hR
        have HR := Lib.hid hR
        clear hR
        have e1 := E1.out
        have e2 := E2.out
        go_enter Try.func20, Try.ntmps20
        go_wp2
        go_quiet (fail)
        go_wp2
        go_ret
        exact ⟨ret_str HR.out.symm, below_drewN (Grow.refl w) _⟩
      · by_cases h4 : y < x
        · rw [if_pos (.inr (.inl h4))] at hR
          have HR := Lib.hid hR
          clear hR
          have e1 := E1.out
          have e2 := E2.out
          go_enter Try.func20, Try.ntmps20
          go_wp2
          go_quiet (fail)
          go_wp2
          go_ret
          exact ⟨ret_str HR.out.symm, below_drewN (Grow.refl w) _⟩
        · by_cases h5 : (tx.size : Int) < y
          · rw [if_pos (.inr (.inr h5))] at hR
            have HR := Lib.hid hR
            clear hR
            have e1 := E1.out
            have e2 := E2.out
            go_enter Try.func20, Try.ntmps20
            go_wp2
            go_quiet (fail)
            go_wp2
            go_ret
            exact ⟨ret_str HR.out.symm, below_drewN (Grow.refl w) _⟩
          · rw [if_neg (by omega)] at hR
            have HR := Lib.hid hR
            obtain ⟨x', rfl⟩ : ∃ x' : Nat, x = x' := ⟨x.toNat, by omega⟩
            obtain ⟨y', rfl⟩ : ∃ y' : Nat, y = y' := ⟨y.toNat, by omega⟩
            have k3 : (x' : Int) ≤ (y' : Int) := by omega
            have k4 : (y' : Int) ≤ (tx.size : Int) := by omega
            clear hR
            have e1 := E1.out
            have e2 := E2.out
            go_enter Try.func20, Try.ntmps20
            go_wp2
            go_quiet (fail)
            go_wp2
            go_ret
            exact ⟨ret_str (by rw [HR.out]; simp), below_drewN (Grow.refl w) _⟩
end Go.Proofs.Ytldcbkememonaaa
