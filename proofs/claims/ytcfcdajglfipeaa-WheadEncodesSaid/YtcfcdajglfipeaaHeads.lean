/-
  The walk of 'headers' at two headers that are alike.
-/
import Derived.Test.YtcfcdajglfipeaaPref
import Derived.Laws.StructEq
import Derived.BigQuiet
namespace Go.Proofs.Ytcfcdajglfipeaa
open Go.RowKit

theorem neq28 (a b : Int) (w : World) : (binOp .neq 28 (.agg #[.int .i64 a, .int .i64 b]) (.agg #[.int .i64 a, .int .i64 b])).run Try.prog w = .ok (.bool false) w := by
  have u3 := Try.underlying3
  have a3 := Try.isAgg3
  have z3 := Try.sizeOf3
  have e1 : Try.prog.underlying 28 = some (.struct (Try.prog.fieldsOf 28)) := by kernel_rfl
  have e2 : Try.prog.stoodInHeld 28 = false := by kernel_rfl
  rw [run_neq_struct, show (10000 : Nat) = 9999 + 1 from rfl, run_equalIn_agg w 9999 28 _ _ e1 e2]
  simp only [Program.fieldsOf, Try.underlying28]
  go_simp

theorem headers_nil (g x : Int) (a1 a2 : Option Addr) (c1 c2 : Nat) (w : World) :
    Calls Try.prog 18 #[.agg #[.int .i64 g, .int .i64 x, .slice a1 0 c1], .agg #[.int .i64 g, .int .i64 x, .slice a2 0 c2]] w fun e w' => e = .returned (.bool true) ∧ Below w.heap.size w w' := by
  go_enter Try.func18, Try.ntmps18
  go_wp2
  refine wp_loop_rounds 1 ?_
  rw [rounds_succ]
  go_wp2
  go_ret
  exact ⟨rfl, ((Below.refl _ _).alloc (Nat.le_refl _) _).alloc (by simp) _⟩

set_option maxHeartbeats 1000000 in
theorem headers_same (g x : Int) (b1 o1 b2 o2 n c1 c2 : Nat) (l : List (Int × Int)) (w : World) (h1 : Hd w (some ⟨b1, o1, none⟩) n c1 l) (h2 : Hd w (some ⟨b2, o2, none⟩) n c2 l) (hn : 0 < n) (hbd : n ≤ 1000) :
    Calls Try.prog 18 #[.agg #[.int .i64 g, .int .i64 x, .slice (some ⟨b1, o1, none⟩) n c1], .agg #[.int .i64 g, .int .i64 x, .slice (some ⟨b2, o2, none⟩) n c2]] w fun e w' => e = .returned (.bool true) ∧ Below w.heap.size w w' := by
  have H1 := Lib.hid h1
  have H2 := Lib.hid h2
  have HN := Lib.hid h1.1
  have neq := neq28
  clear h1 h2
  go_enter Try.func18, Try.ntmps18
  go_wp2
  obtain ⟨W1, hW⟩ : ∃ W1, W1 = (w.alloc (.cells #[.int .i64 g, .int .i64 x, .slice (some ⟨b1, o1, none⟩) n c1] 24)).alloc (.cells #[.int .i64 g, .int .i64 x, .slice (some ⟨b2, o2, none⟩) n c2] 24) := ⟨_, rfl⟩
  have g1 : Grow w W1 := by rw [hW]; exact ((Grow.refl w).alloc _).alloc _
  have q1 : W1.cell? ⟨w.heap.size, 2, none⟩ = some (.slice (some ⟨b1, o1, none⟩) n c1) := by rw [hW]; simp [go_sem]
  have q2 : W1.cell? ⟨w.heap.size + 1, 2, none⟩ = some (.slice (some ⟨b2, o2, none⟩) n c2) := by rw [hW]; simp [go_sem]
  have hs : w.heap.size + 1 < W1.heap.size := by rw [hW]; simp
  rw [← hW]
  clear hW
  go_loopw [5] (fun i wr => ∃ k : Nat, k ≤ n ∧ i = .int .i64 k ∧ Grow W1 wr) (fun i _ => n - (intOf i).toNat)
  case atStart => exact ⟨0, by omega, rfl, Grow.refl _⟩
  case round =>
    obtain ⟨k, hk, rfl, hg⟩ := hrel
    have r1 := (Below.cell hg (p := ⟨w.heap.size, 2, none⟩) (by simp; omega)).trans q1
    have r2 := (Below.cell hg (p := ⟨w.heap.size + 1, 2, none⟩) (by simp; omega)).trans q2
    by_cases hlt : k < n
    · have hkl : k < l.length := by rw [HN.out]; exact hlt
      obtain ⟨_, _, e1, ha1⟩ := (H1.out.grow (Grow.trans g1 hg)).2.2.2 hn
      obtain ⟨_, _, e2, ha2⟩ := (H2.out.grow (Grow.trans g1 hg)).2.2.2 hn
      injection e1 with e1
      injection e1 with e11 e12 _
      subst e11 e12
      injection e2 with e2
      injection e2 with e21 e22 _
      subst e21 e22
      obtain ⟨p1, p2⟩ := ha1.2 k hkl
      obtain ⟨p3, p4⟩ := ha2.2 k hkl
      obtain ⟨S, hS⟩ : ∃ S, S = (at_ l k).1 := ⟨_, rfl⟩
      obtain ⟨C, hC⟩ : ∃ C, C = (at_ l k).2 := ⟨_, rfl⟩
      rw [← hS] at p1 p3
      rw [← hC] at p2 p4
      have k0 : (0 : Int) ≤ (k : Int) := by omega
      have k1 : (k : Int) < (n : Int) := by omega
      clear hS hC ha1 ha2 hkl
      go_wp2
      go_quiet (fail)
      go_wp2
      go_roundw
      case rel => exact ⟨k + 1, by omega, by go_num, below_drewN hg _⟩
      case measure => simp [intOf]; omega
    · obtain rfl : k = n := by omega
      go_wp2
      go_ret
      exact ⟨rfl, Grow.trans g1 hg⟩

theorem headers_any (g x : Int) (a1 a2 : Option Addr) (n c1 c2 : Nat) (l : List (Int × Int)) (w : World) (h1 : Hd w a1 n c1 l) (h2 : Hd w a2 n c2 l) (hbd : n ≤ 1000) :
    Calls Try.prog 18 #[.agg #[.int .i64 g, .int .i64 x, .slice a1 n c1], .agg #[.int .i64 g, .int .i64 x, .slice a2 n c2]] w fun e w' => e = .returned (.bool true) ∧ Below w.heap.size w w' := by
  rcases Nat.eq_zero_or_pos n with rfl | hn
  · exact headers_nil g x a1 a2 c1 c2 w
  · obtain ⟨_, _, rfl, _⟩ := h1.2.2.2 hn
    obtain ⟨_, _, rfl, _⟩ := h2.2.2.2 hn
    exact headers_same g x _ _ _ _ n c1 c2 l w h1 h2 hn hbd
end Go.Proofs.Ytcfcdajglfipeaa
