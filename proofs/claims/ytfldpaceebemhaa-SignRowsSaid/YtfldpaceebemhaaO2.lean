/-
  The walk of graticuleref17.Of; the sort of an argument's place, both.
-/
import Derived.Test.YtfldpaceebemhaaF1
namespace Go.Proofs.Ytfldpaceebemhaa
open Go.RowKit

theorem IntsIn.setT {xs : List Int} {v : Value} {w : World} {r j : Nat} {T : TypeId} {cs : Array Value} (h : IntsIn xs v w) (hT : T ≠ 3) (hb : w.heap[r]? = some (.cells cs T (0, 0))) (x : Value) :
    IntsIn xs v (w.setCell ⟨r, j, none⟩ x) ∧ ∃ cs', (w.setCell ⟨r, j, none⟩ x).heap[r]? = some (.cells cs' T (0, 0)) := by
  refine ⟨?_, _, Go.heap_setCell_same w r j _ _ _ hb⟩
  refine World.ownsRow.kept h (row := some r) ⟨rfl, rfl, rfl, by simp, fun k hk hkr => heap_setCell_other _ _ _ _ (fun e => hkr (by rw [e]))⟩ ?_
  rcases h.2 with ⟨h1, _⟩ | ⟨g, cap, cur, h1, _, h2, _⟩
  · left; rw [h1]; rfl
  · right
    rw [h1]
    intro e
    injection e with e
    have e : r = g := e.symm
    subst e
    rw [h2] at hb
    injection hb with h3
    injection h3 with _ h4
    exact hT h4.symm
theorem IntsIn.set4T {xs : List Int} {v : Value} {w : World} {r : Nat} {T : TypeId} {cs : Array Value} (h : IntsIn xs v w) (hT : T ≠ 3) (hb : w.heap[r]? = some (.cells cs T (0, 0))) (a b c d : Value) :
    IntsIn xs v ((((w.setCell ⟨r, 0, none⟩ a).setCell ⟨r, 1, none⟩ b).setCell ⟨r, 2, none⟩ c).setCell ⟨r, 3, none⟩ d) := by
  obtain ⟨h1, _, b1⟩ := h.setT (j := 0) hT hb a
  obtain ⟨h2, _, b2⟩ := h1.setT (j := 1) hT b1 b
  obtain ⟨h3, _, b3⟩ := h2.setT (j := 2) hT b2 c
  exact (h3.setT (j := 3) hT b3 d).1
theorem nmsF_len (k : Nat) (hk : k < 18) : (nmsF k).length ≤ 100 := by
  have : ∀ k, k < 18 → (nmsF k).length ≤ 100 := by decide +kernel
  exact this k hk
set_option maxHeartbeats 1000000 in
theorem of14_any (s : ByteArray) (w : World) : Calls Try.prog 14 #[.string s] w (OfPost s w) := by
  go_enter Try.func14, Try.ntmps14
  obtain ⟨w1, hw1⟩ : ∃ w1, w1 = w.alloc (.cells #[.string ⟨#[]⟩, .slice none 0 0, .slice none 0 0, .int .i64 0] 37) := ⟨_, rfl⟩
  have hw := heap_alloc_new w (.cells #[.string ⟨#[]⟩, .slice none 0 0, .slice none 0 0, .int .i64 0] 37)
  have g1 := (Grow.refl w).alloc (.cells #[.string ⟨#[]⟩, .slice none 0 0, .slice none 0 0, .int .i64 0] 37)
  have z1 : (w.alloc (.cells #[.string ⟨#[]⟩, .slice none 0 0, .slice none 0 0, .int .i64 0] 37)).heap.size = w.heap.size + 1 := by simp
  go_wp2
  rw [← hw1] at hw g1 z1 ⊢
  have HW := Lib.hid hw
  have G1 := Lib.hid g1
  clear hw g1 hw1
  go_loopw [4] (fun i wr => ∃ k : Nat, k ≤ 18 ∧ i = .int .i64 k ∧ Hid (∀ (j : Nat), j < k → isN s (nmsF j) = false) ∧ Grow w1 wr) (fun i _ => 18 - (intOf i).toNat)
  case atStart => exact ⟨0, by omega, rfl, Lib.hid (fun j hj => absurd hj (by omega)), Grow.refl _⟩
  case round =>
    obtain ⟨k, hk, rfl, H, hb⟩ := hrel
    have hrs := hb.size
    have hwr : wr.heap[w.heap.size]? = some (.cells #[.string ⟨#[]⟩, .slice none 0 0, .slice none 0 0, .int .i64 0] 37 (0, 0)) := (Below.block hb _ (by omega)).trans HW.out
    have HWR := Lib.hid hwr
    have HB := Lib.hid hb
    clear hwr hb
    by_cases hlt : k < 18
    · have k1 : (k : Int) < 18 := by omega
      have R26 := Lib.hid (fun W => row26 k hlt W)
      have R27 := Lib.hid (fun W => sig27 k hlt W)
      cases hin : isN s (nmsF k)
      all_goals
        have IN := Lib.hid (fun c W h => in_any s (nmsF k) wr.heap.size c W (nmsF_len k hlt) h)
        have hin' : ((nmsF k).any fun x => x.toList == s.toList) = isN s (nmsF k) := rfl
        rw [hin', hin] at IN
        have HIN := Lib.hid hin
        clear hin hin'
        obtain ⟨L, hL⟩ : ∃ L, L = (nmsF k).length := ⟨_, rfl⟩
        obtain ⟨O, hO⟩ : ∃ O, O = Obj.cells ((nmsF k).map Value.string).toArray 9 := ⟨_, rfl⟩
        have R26' : Hid (∀ W, Calls Try.prog 26 #[.int .i64 k] W fun e w' => e = .returned (.slice (some ⟨W.heap.size, 0, none⟩) L L) ∧ w' = W.alloc O) := Lib.hid (fun W => by rw [hL, hO]; exact R26.out W)
        have IN' : Hid (Calls Try.prog 25 #[.string s, .slice (some ⟨wr.heap.size, 0, none⟩) L L] (wr.alloc O) fun e w' => e = .returned (.bool _) ∧ (wr.alloc O) = w') := Lib.hid (by rw [hL, hO]; exact IN.out _ _ (cells_alloc wr _ rfl _ _))
        clear IN R26 hO hL
        go_wp2_with fail
        refine (R26'.out _).mono ?_
        rintro e w2 ⟨rfl, rfl⟩
        go_wp2_with fail
        refine IN'.out.mono ?_
        rintro e w3 ⟨rfl, rfl⟩
      · go_wp2
        go_roundw
        case rel => exact ⟨k + 1, by omega, by go_num, Lib.hid (fun j hj => by
          rcases Nat.lt_or_ge j k with h | h
          · exact H.out j h
          · obtain rfl : j = k := by omega
            exact HIN.out), HB.out.alloc _⟩
        case measure => simp [intOf]; omega
      · go_wp2_with fail
        refine (R27.out _).mono ?_
        rintro e w4 ⟨nv, mv, rfl, i1, i2, g4⟩
        obtain ⟨a1, n1, z1', rfl⟩ := i1.shape
        obtain ⟨a2, n2, z2', rfl⟩ := i2.shape
        have zo := Grow.size g4
        simp at zo
        have hw4 : w4.heap[w.heap.size]? = some (.cells #[.string ⟨#[]⟩, .slice none 0 0, .slice none 0 0, .int .i64 0] 37 (0, 0)) := (Below.block g4 _ (by simp; omega)).trans ((Below.block ((Grow.refl wr).alloc O) _ (by omega)).trans HWR.out)
        have e0 : w4.cell? ⟨w.heap.size, 0, none⟩ = some (.string ⟨#[]⟩) := cell_blk hw4 0
        have e1 : w4.cell? ⟨w.heap.size, 1, none⟩ = some (.slice none 0 0) := cell_blk hw4 1
        have e2 : w4.cell? ⟨w.heap.size, 2, none⟩ = some (.slice none 0 0) := cell_blk hw4 2
        have e3 : w4.cell? ⟨w.heap.size, 3, none⟩ = some (.int .i64 0) := cell_blk hw4 3
        have f0 := froz_blk hw4 0
        have f1 := froz_blk hw4 1
        have f2 := froz_blk hw4 2
        have f3 := froz_blk hw4 3
        have HW4 := Lib.hid hw4
        have I1 := Lib.hid i1
        have I2 := Lib.hid i2
        have G4 := Lib.hid g4
        have hwr' : w.heap.size < w4.heap.size := by omega
        clear hw4 i1 i2 g4
        go_wp2
        refine bodyPost_ret (v := .tuple #[.agg #[.string s, .slice a1 n1 z1', .slice a2 n2 z2', .int .i64 (sigF k).2.2], .bool true]) (by simp [results, Try.results14, go_sem, e0, e1, e2, e3, hwr', Array.getElem?_append]) rfl ?_
        refine ⟨⟨s, (sigF k).1, (sigF k).2.1, (sigF k).2.2⟩, true, _, _, rfl, (I1.out.set4T (by decide) HW4.out _ _ _ _).grow ((Grow.refl _).alloc _), (I2.out.set4T (by decide) HW4.out _ _ _ _).grow ((Grow.refl _).alloc _), ?_, ?_⟩
        · exact (((((((G1.out.trans HB.out).alloc O).trans G4.out).setCell (Nat.le_refl _) _).setCell (Nat.le_refl _) _).setCell (Nat.le_refl _) _).setCell (Nat.le_refl _) _).alloc (by simp; omega) _
        · exact ofF_row s k hlt (fun j hj => H.out j hj) HIN.out
    · have k1 : ¬ (k : Int) < 18 := by omega
      obtain rfl : k = 18 := by omega
      have e0 : wr.cell? ⟨w.heap.size, 0, none⟩ = some (.string ⟨#[]⟩) := cell_blk HWR.out 0
      have e1 : wr.cell? ⟨w.heap.size, 1, none⟩ = some (.slice none 0 0) := cell_blk HWR.out 1
      have e2 : wr.cell? ⟨w.heap.size, 2, none⟩ = some (.slice none 0 0) := cell_blk HWR.out 2
      have e3 : wr.cell? ⟨w.heap.size, 3, none⟩ = some (.int .i64 0) := cell_blk HWR.out 3
      have f0 := froz_blk HWR.out 0
      have f1 := froz_blk HWR.out 1
      have f2 := froz_blk HWR.out 2
      have f3 := froz_blk HWR.out 3
      have hwr' : w.heap.size < wr.heap.size := by omega
      go_wp2
      refine bodyPost_ret (v := .tuple #[.agg #[.string ⟨#[]⟩, .slice none 0 0, .slice none 0 0, .int .i64 0], .bool false]) (by simp [results, Try.results14, go_sem, e0, e1, e2, e3, hwr', hrs]) rfl ?_
      refine ⟨⟨⟨#[]⟩, [], [], 0⟩, false, _, _, rfl, (ints_nil _), (ints_nil _), ?_, ?_⟩
      · exact ((((G1.out.trans HB.out).setCell (Nat.le_refl _) _).setCell (Nat.le_refl _) _).setCell (Nat.le_refl _) _).setCell (Nat.le_refl _) _
      · exact ofF_none s (fun j hj => H.out j hj)
end Go.Proofs.Ytfldpaceebemhaa
