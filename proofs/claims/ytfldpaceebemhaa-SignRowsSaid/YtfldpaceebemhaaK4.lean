/-
  heavy, known; both Checks alike over any tree.
-/
import Derived.Test.YtfldpaceebemhaaK3
namespace Go.Proofs.Ytfldpaceebemhaa
open Go.RowKit

/-- a tree of nodes in memory, so deep -/
def KidsOk : Nat → World → Option Addr → Nat → Prop
  | 0, _, _, l => l = 0
  | f + 1, w, a, l => ∃ K, KidRow w a l K ∧ ∀ i, i < l → KidsOk f w (K i).ao (K i).l
theorem KidsOk.row {f : Nat} {w : World} {a : Option Addr} {l : Nat} (h : KidsOk f w a l) : ∃ K, KidRow w a l K ∧ ∀ i, i < l → ∃ g, f = g + 1 ∧ KidsOk g w (K i).ao (K i).l := by
  cases f with
  | zero =>
    have h0 : l = 0 := h
    subst h0
    exact ⟨fun _ => ⟨0, ⟨#[]⟩, 0, none, 0, 0⟩, ⟨Nat.zero_le _, fun h => absurd h (by omega)⟩, fun i hi => absurd hi (by omega)⟩
  | succ f =>
    obtain ⟨K, h1, h2⟩ := h
    exact ⟨K, h1, fun i hi => ⟨f, rfl, h2 i hi⟩⟩
theorem KidsOk.grow {w w' : World} (hb : Grow w w') : ∀ {f : Nat} {a : Option Addr} {l : Nat}, KidsOk f w a l → KidsOk f w' a l
  | 0, _, _, h => h
  | f + 1, _, _, h => by
    obtain ⟨K, h1, h2⟩ := h
    exact ⟨K, h1.grow hb, fun i hi => (h2 i hi).grow hb⟩
theorem check_alike : ∀ (f : Nat) (kd : Int) (tx : ByteArray) (n : Int) (a : Option Addr) (l c : Nat) (w : World), tx.size ≤ maxLen → KidsOk f w a l →
    ∃ E : Int, ∀ w', Grow w w' → (Calls Try.prog 11 #[.agg #[.int .i64 kd, .string tx, .int .i64 n, .slice a l c]] w' fun e w'' => e = .returned (.int .i64 E) ∧ Grow w' w'') ∧
      (Calls Try.prog 12 #[.agg #[.int .i64 kd, .string tx, .int .i64 n, .slice a l c]] w' fun e w'' => e = .returned (.int .i64 E) ∧ Grow w' w'') := by
  intro f
  induction f with
  | zero =>
    intro kd tx n a l c w ht h
    obtain ⟨K, h1, -⟩ := h.row
    have h0 : l = 0 := h
    subst h0
    exact ⟨chk1 kd tx 0 K (fun _ => 0), fun w' hw => ⟨check11_walk kd tx n a 0 c K _ w' ht (h1.grow hw) (fun i hi => absurd hi (by omega)), check12_walk kd tx n a 0 c K _ w' ht (h1.grow hw) (fun i hi => absurd hi (by omega))⟩⟩
  | succ f ih =>
    intro kd tx n a l c w ht h
    obtain ⟨K, h1, h2⟩ := h
    have hE : ∀ i, ∃ E : Int, i < l → ∀ w', Grow w w' → (Calls Try.prog 11 #[(K i).val] w' fun e w'' => e = .returned (.int .i64 E) ∧ Grow w' w'') ∧
      (Calls Try.prog 12 #[(K i).val] w' fun e w'' => e = .returned (.int .i64 E) ∧ Grow w' w'') := fun i => by
      by_cases hi : i < l
      · obtain ⟨g, o, _, _, hk⟩ := h1.2 (by omega)
        obtain ⟨E, hE⟩ := ih (K i).kd (K i).tx (K i).n (K i).ao (K i).l (K i).c w (hk i hi).2.2.2.2 (h2 i hi)
        exact ⟨E, fun _ => hE⟩
      · exact ⟨0, fun h => absurd h hi⟩
    obtain ⟨E, hE⟩ := Classical.axiomOfChoice hE
    exact ⟨chk1 kd tx l K E, fun w' hw => ⟨check11_walk kd tx n a l c K E w' ht (h1.grow hw) (fun i hi _ w'' hw' => (hE i hi w'' (hw.trans hw')).1),
      check12_walk kd tx n a l c K E w' ht (h1.grow hw) (fun i hi _ w'' hw' => (hE i hi w'' (hw.trans hw')).2)⟩⟩
set_option maxHeartbeats 1000000 in
theorem heavy_walk (kd : Int) (tx : ByteArray) (n : Int) (a : Option Addr) (l c : Nat) (K : Nat → KidD) (left : Int) (w : World) (htx : tx.size ≤ maxLen) (hk : KidRow w a l K)
    (IH : ∀ i, i < l → ∀ (x : Int) w', Grow w w' → Calls Try.prog 7 #[(K i).val, .int .i64 x] w' fun e w'' => ∃ y, e = .returned (.int .i64 y) ∧ Grow w' w'') :
    Calls Try.prog 7 #[.agg #[.int .i64 kd, .string tx, .int .i64 n, .slice a l c], .int .i64 left] w fun e w' => ∃ y, e = .returned (.int .i64 y) ∧ Grow w w' := by
  obtain ⟨hl, hk⟩ := hk
  unfold maxLen at hl
  have HI := Lib.hid IH
  have HK := Lib.hid hk
  clear hk IH
  go_enter Try.func7, Try.ntmps7
  have hs1 := heap_alloc_new w (.cells #[.int .i64 kd, .string tx, .int .i64 n, .slice a l c] 24)
  have g1 := (Grow.refl w).alloc (.cells #[.int .i64 kd, .string tx, .int .i64 n, .slice a l c] 24)
  have z1 : (w.alloc (.cells #[.int .i64 kd, .string tx, .int .i64 n, .slice a l c] 24)).heap.size = w.heap.size + 1 := by simp
  go_wp2
  obtain ⟨w1, hw1⟩ : ∃ w1, w1 = w.alloc (.cells #[.int .i64 kd, .string tx, .int .i64 n, .slice a l c] 24) := ⟨_, rfl⟩
  rw [← hw1] at hs1 g1 z1 ⊢
  have HS1 := Lib.hid hs1
  have G1 := Lib.hid g1
  clear hs1 g1 hw1
  go_loopw [5, 1] (fun i t wr => ∃ (k : Nat) (x : Int), k ≤ l ∧ i = .int .i64 k ∧ t = .int .i64 x ∧ Grow w1 wr) (fun i _ _ => l - (intOf i).toNat)
  case atStart => exact ⟨0, _, by omega, rfl, rfl, Grow.refl _⟩
  case round =>
    obtain ⟨k, x, hkl, rfl, rfl, hb⟩ := hrel
    have k0 : (0 : Int) ≤ (k : Int) := by omega
    have hrs := hb.size
    have hn := (Below.block hb _ (show w.heap.size < w1.heap.size by omega)).trans HS1.out
    have b3 := cell_blk hn 3
    simp at b3
    clear hn
    by_cases hlt : k < l
    · have k1 : (k : Int) < (l : Int) := by omega
      by_cases hx : (0 : Int) ≤ x
      · obtain ⟨g, o, rfl, hg, hki⟩ := HK.out (by omega)
        obtain ⟨q0, q1, q2, q3, q4⟩ := hki k hlt
        have hw2r : Grow w wr := G1.out.trans hb
        replace q0 := (Below.cell hw2r (p := ⟨g, _, none⟩) hg).trans q0
        replace q1 := (Below.cell hw2r (p := ⟨g, _, none⟩) hg).trans q1
        replace q2 := (Below.cell hw2r (p := ⟨g, _, none⟩) hg).trans q2
        replace q3 := (Below.cell hw2r (p := ⟨g, _, none⟩) hg).trans q3
        have hgr : g < wr.heap.size := by omega
        have HB := Lib.hid hb
        have HC := Lib.hid (HI.out k hlt x wr hw2r)
        clear hb hw2r hki
        go_wp2_with fail
        refine HC.out.mono ?_
        rintro e w5 ⟨y, rfl, g5⟩
        have G5 := Lib.hid g5
        clear g5
        go_wp2
        go_roundw
        case rel => exact ⟨k + 1, y, by omega, by go_num, rfl, HB.out.trans G5.out⟩
        case measure => simp [intOf]; omega
      · have HB := Lib.hid hb
        clear hb
        go_wp2
        go_ret
        exact ⟨⟨_, rfl⟩, G1.out.trans HB.out⟩
    · have k1 : ¬ (k : Int) < (l : Int) := by omega
      have HB := Lib.hid hb
      clear hb
      go_wp2
      go_ret
      exact ⟨⟨_, rfl⟩, G1.out.trans HB.out⟩
theorem heavy_any : ∀ (f : Nat) (kd : Int) (tx : ByteArray) (n : Int) (a : Option Addr) (l c : Nat) (left : Int) (w : World), tx.size ≤ maxLen → KidsOk f w a l →
    Calls Try.prog 7 #[.agg #[.int .i64 kd, .string tx, .int .i64 n, .slice a l c], .int .i64 left] w fun e w' => ∃ y, e = .returned (.int .i64 y) ∧ Grow w w' := by
  intro f
  induction f with
  | zero =>
    intro kd tx n a l c left w ht h
    obtain ⟨K, h1, -⟩ := h.row
    have h0 : l = 0 := h
    subst h0
    exact heavy_walk kd tx n a 0 c K left w ht h1 (fun i hi => absurd hi (by omega))
  | succ f ih =>
    intro kd tx n a l c left w ht h
    obtain ⟨K, h1, h2⟩ := h
    refine heavy_walk kd tx n a l c K left w ht h1 (fun i hi x w' hw => ?_)
    obtain ⟨g, o, _, _, hk⟩ := h1.2 (by omega)
    exact ih (K i).kd (K i).tx (K i).n (K i).ao (K i).l (K i).c x w' (hk i hi).2.2.2.2 ((h2 i hi).grow hw)
/-- a number where a string stands -/
theorem chk_known (K : Nat → KidD) (E : Nat → Int) (h0 : (K 0).kd = 2) (h1 : (K 1).kd = 4) : chk1 1 ⟨#[115, 99, 97, 108, 101]⟩ 2 K E = 11 := by
  have ho : ofF ⟨#[115, 99, 97, 108, 101]⟩ = (⟨⟨#[115, 99, 97, 108, 101]⟩, [1, 2], [], 0⟩, true) := ofF_row _ 1 (by omega) (by
    intro j hj
    obtain rfl : j = 0 := by omega
    decide +kernel) (by decide +kernel)
  unfold chk1
  rw [ho]
  have hb : okKid ⟨⟨#[115, 99, 97, 108, 101]⟩, [1, 2], [], 0⟩ K 1 = false := by
    unfold okKid
    rw [h1, show sortAt ⟨⟨#[115, 99, 97, 108, 101]⟩, [1, 2], [], 0⟩ 1 = 2 from rfl]
    rfl
  rw [range_all_false _ (by omega : 1 < 2) hb]
  rfl
set_option maxHeartbeats 1000000 in
theorem known_any (w : World) : Calls Try.prog 10 #[] w fun e w' => e = .returned (.bool true) ∧ Grow w w' := by
  have FK : ∀ W, W = (w.alloc (.cells #[.int .i64 2, .string ⟨#[97]⟩, .int .i64 0, .slice none 0 0, .int .i64 4, .string ⟨#[120]⟩, .int .i64 0, .slice none 0 0] 24)) → ∀ W', Grow W W' →
      Calls Try.prog 11 #[.agg #[.int .i64 1, .string ⟨#[115, 99, 97, 108, 101]⟩, .int .i64 0, .slice (some ⟨w.heap.size, 0, none⟩) 2 2]] W' fun e w'' => e = .returned (.int .i64 11) ∧ Grow W' w'' := by
    intro W hW W' hg
    have hn : W.heap[w.heap.size]? = some (.cells #[.int .i64 2, .string ⟨#[97]⟩, .int .i64 0, .slice none 0 0, .int .i64 4, .string ⟨#[120]⟩, .int .i64 0, .slice none 0 0] 24 (0, 0)) := by rw [hW]; exact heap_alloc_new w _
    have hz : w.heap.size < W.heap.size := by rw [hW]; simp
    obtain ⟨K, hK⟩ : ∃ K : Nat → KidD, K = fun i => if i = 0 then ⟨2, ⟨#[97]⟩, 0, none, 0, 0⟩ else ⟨4, ⟨#[120]⟩, 0, none, 0, 0⟩ := ⟨_, rfl⟩
    have hr : KidRow W (some ⟨w.heap.size, 0, none⟩) 2 K := by
      refine ⟨by unfold maxLen; omega, fun _ => ⟨_, _, rfl, hz, fun i hi => ?_⟩⟩
      rcases (show i = 0 ∨ i = 1 from by omega) with rfl | rfl
      · rw [hK]; exact ⟨cell_blk hn 0, cell_blk hn 1, cell_blk hn 2, cell_blk hn 3, by decide⟩
      · rw [hK]; exact ⟨cell_blk hn 4, cell_blk hn 5, cell_blk hn 6, cell_blk hn 7, by decide⟩
    have h := check11_walk 1 ⟨#[115, 99, 97, 108, 101]⟩ 0 (some ⟨w.heap.size, 0, none⟩) 2 2 K (fun _ => 0) W' (by decide) (hr.grow hg) (by
      intro i hi h1
      rcases (show i = 0 ∨ i = 1 from by omega) with rfl | rfl
      · rw [hK] at h1; simp at h1
      · rw [hK] at h1; simp at h1)
    rw [chk_known K _ (by rw [hK]; rfl) (by rw [hK]; rfl)] at h
    exact h
  have HF := Lib.hid FK
  clear FK
  go_enter Try.func10, Try.ntmps10
  go_wp2_with fail
  refine (HF.out _ rfl _ ((Grow.refl _).alloc _)).mono ?_
  rintro e w1 ⟨rfl, g1⟩
  have G1 := Lib.hid g1
  clear g1
  go_wp2
  go_ret
  exact ⟨rfl, (((Grow.refl _).alloc _).alloc _).trans G1.out⟩
end Go.Proofs.Ytfldpaceebemhaa
