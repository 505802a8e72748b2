/-
  The walk of PikeGroups.
-/
import Derived.Test.YtldcbkememonaaaH4
import Derived.ChangeSlices
import Derived.Test.YtldcbkememonaaaG5

namespace Go.Proofs.Ytldcbkememonaaa
open Go.RowKit
set_option linter.unusedVariables false
set_option linter.unusedSimpArgs false

/-- numbers that came in, as they can be read -/
theorem open_nums {H : Type} {enc : TypeId × Value → H} {W : World} {fuel : Nat} {cs : List Value} {x : DataW H × List MemPlace} (h : DataW.trod enc Try.prog W 0 (fun _ => true) true fuel 27 cs = some x) :
    ∃ (a : Option Addr) (xs : List Int) (c : Nat), cs = [.slice a xs.length c] ∧ RdN xs a W ∧ ∀ n ∈ xs, (Lit.int .i64 n).wf = true := by
  rcases Go.ChangeShapes.open_ints Try.underlying27 Try.underlying3 (by kernel_rfl) h with ⟨h1, _⟩ | ⟨ad, len, cap, zs, h1, _, hl, _, hz, _, hc, hw⟩
  · exact ⟨none, [], 0, h1, fun h => absurd h (by simp), fun n hn => by cases hn⟩
  · simp only [if_true] at hz
    refine ⟨some ad, zs.take len, cap, by rw [h1, List.length_take, Nat.min_eq_left (by omega)], fun h0 => ?_, fun n hn => hw n (List.mem_of_mem_take hn)⟩
    rw [List.length_take, Nat.min_eq_left (by omega)] at h0
    obtain ⟨b, o, sp⟩ := ad
    have hc0 := hc 0 (by omega)
    have hsp : sp = none := by simpa [Addr.add] using World.cell?_spot hc0
    subst hsp
    refine ⟨b, o, rfl, World.block_lt_of_cell? W ⟨b, o, none⟩ (by simpa [Addr.add] using hc0), fun j x hj => ?_⟩
    have hj2 := (List.getElem?_eq_some_iff.1 hj).1
    rw [List.length_take, Nat.min_eq_left (by omega)] at hj2
    rw [List.getElem?_take_of_lt hj2] at hj
    have := hc j (by omega)
    have e : (⟨b, o, none⟩ : Addr).add j = ⟨b, o + j, none⟩ := by unfold Addr.add; split <;> simp_all
    rw [e] at this
    rw [this]
    simp [List.getD, hj]
set_option maxHeartbeats 2000000 in
theorem pgroups_any (tx : ByteArray) (ps : List Int) (k : Int) (a : Option Addr) (c : Nat) (w : World) (h : RdN ps a w) (hk : (Lit.int .i64 k).wf = true) : Calls Try.prog 7 #[.string tx, .slice a ps.length c, .int .i64 k] w (TrueP true w) := by
  have hk9 : k ≤ 9223372036854775807 := by
    simp [Lit.wf, IntKind.min, IntKind.max, IntKind.signed, IntKind.bits] at hk
    omega
  by_cases h1 : 60 < tx.size
  · clear h hk
    go_enter Try.func7, Try.ntmps7
    go_wp2
    go_ret
    exact ⟨rfl, Grow.refl w⟩
  · by_cases h2 : 60 < ps.length
    · clear h hk
      go_enter Try.func7, Try.ntmps7
      go_wp2
      go_ret
      exact ⟨rfl, Grow.refl w⟩
    · have C1 := fun w' (g : Grow w w') => group19_any tx ps k a c w' (h.grow g) (by omega) (by omega) hk9
      have C2 := fun w' (g : Grow w w') => group20_any tx ps k a c w' (h.grow g) (by omega) (by omega) hk9
      obtain ⟨n, hn⟩ : ∃ n, n = ps.length := ⟨_, rfl⟩
      obtain ⟨R, hR⟩ : ∃ R, R = grpF tx ps k := ⟨_, rfl⟩
      rw [← hn, ← hR] at C1 C2
      rw [← hn] at h2 ⊢
      have C1 := Lib.hid C1
      have C2 := Lib.hid C2
      have KN := Lib.hid known_any
      clear hn hR h hk
      go_enter Try.func7, Try.ntmps7
      go_wp2_with fail
      refine (C1.out _ (Grow.refl w)).mono ?_
      rintro e w1 ⟨rfl, g1⟩
      have G1 := Lib.hid g1
      clear g1
      go_wp2_with fail
      refine (C2.out _ G1.out).mono ?_
      rintro e w2 ⟨rfl, g2⟩
      have G2 := Lib.hid (G1.out.trans2 g2)
      clear g2
      go_wp2_with fail
      refine (KN.out _).mono ?_
      rintro e w3 ⟨rfl, g3⟩
      have G3 := Lib.hid (G2.out.trans2 g3)
      clear g3
      go_wp2
      go_ret
      exact ⟨rfl, G3.out⟩
end Go.Proofs.Ytldcbkememonaaa
