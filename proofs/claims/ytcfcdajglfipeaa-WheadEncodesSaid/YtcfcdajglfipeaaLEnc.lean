/-
  The walk of WheadEncodes.
-/
import Derived.Test.YtcfcdajglfipeaaLDec
import Derived.Test.YtcfcdajglfipeaaBack
import Derived.BigQuiet
import Derived.Laws.AppendOwnNone
namespace Go.Proofs.Ytcfcdajglfipeaa
open Go.RowKit

theorem lenc_big (g x i : Int) (ao am : Option Addr) (n c n2 c2 : Nat) (w : World) (h : 60 < n ∨ 2000 < n2) :
    Calls Try.prog 4 #[.agg #[.int .i64 g, .int .i64 x, .slice ao n c], .int .i64 i, .slice am n2 c2] w fun e w' => e = .returned (.bool true) ∧ Below w.heap.size w w' := by
  by_cases h1 : 60 < n
  · have h' : (60 : Int) < (n : Int) := by omega
    clear h h1
    go_enter Try.func4, Try.ntmps4
    go_wp2
    go_ret
    exact ⟨rfl, (Below.refl _ _).alloc (Nat.le_refl _) _⟩
  · have h' : ¬ (60 : Int) < (n : Int) := by omega
    have h'' : (2000 : Int) < (n2 : Int) := by omega
    clear h h1
    go_enter Try.func4, Try.ntmps4
    go_wp2
    go_ret
    exact ⟨rfl, (Below.refl _ _).alloc (Nat.le_refl _) _⟩

theorem conv_nil (w : World) : (convert 31 9 (.slice none 0 0)).run Try.prog w = .ok (.string ⟨#[]⟩) w := by
  kernel_rfl

/-- the six calls over a header, in any world that has only grown -/
theorem six {g x i : Int} {ao : Option Addr} {n c : Nat} {l : List (Int × Int)} {w W : World} (h : Hd w ao n c l) (hg : Grow w W) (B : Nat) (hB : B = W.heap.size) : ∀ y : Beyond B W,
    (Calls Try.prog 8 #[.agg #[.int .i64 g, .int .i64 x, .slice ao n c]] y.w fun e w' => e = .returned (.int .i64 (if May g x l then sizeTo l n else 0)) ∧ Below y.w.heap.size y.w w') ∧
    (Calls Try.prog 13 #[.agg #[.int .i64 g, .int .i64 x, .slice ao n c]] y.w fun e w' => e = .returned (.int .i64 (if May g x l then sizeTo l n else 0)) ∧ Below y.w.heap.size y.w w') ∧
    (Calls Try.prog 7 #[.agg #[.int .i64 g, .int .i64 x, .slice ao n c], .int .i64 i] y.w fun e w' => e = .returned (.int .i64 (offOf g x l i)) ∧ Below y.w.heap.size y.w w') ∧
    (Calls Try.prog 14 #[.agg #[.int .i64 g, .int .i64 x, .slice ao n c], .int .i64 i] y.w fun e w' => e = .returned (.int .i64 (offOf g x l i)) ∧ Below y.w.heap.size y.w w') ∧
    (Calls Try.prog 15 #[.agg #[.int .i64 g, .int .i64 x, .slice ao n c]] y.w fun e w' => e = .returned (.int .i64 (spanOf g x l)) ∧ Below y.w.heap.size y.w w') ∧
    (Calls Try.prog 16 #[.agg #[.int .i64 g, .int .i64 x, .slice ao n c]] y.w fun e w' => e = .returned (.int .i64 (spanOf g x l)) ∧ Below y.w.heap.size y.w w') := fun y => by
  subst hB
  have hy : Hd y.w ao n c l := (h.grow hg).grow y.h
  exact ⟨size_all g x ao n c l y.w hy, rsize_any g x ao n c l y.w hy, offset_all g x i ao n c l y.w hy, roffset_any g x i ao n c l y.w hy, span_all g x ao n c l y.w hy, rspan_any g x ao n c l y.w hy⟩

set_option maxHeartbeats 4000000 in
theorem lenc_no (g x i : Int) (ao am : Option Addr) (n c n2 c2 : Nat) (l : List (Int × Int)) (w : World) (h : Hd w ao n c l) (hn : n ≤ 60) (hn2 : n2 ≤ 2000) (hm : ¬ May g x l) :
    Calls Try.prog 4 #[.agg #[.int .i64 g, .int .i64 x, .slice ao n c], .int .i64 i, .slice am n2 c2] w fun e w' => e = .returned (.bool true) ∧ Below w.heap.size w w' := by
  have h' : ¬ (60 : Int) < (n : Int) := by omega
  have h'' : ¬ (2000 : Int) < (n2 : Int) := by omega
  have HD := Lib.hid h
  have HM := Lib.hid hm
  have CK := Lib.hid (check_not h hm)
  have cv := conv_nil
  clear h hm
  go_enter Try.func4, Try.ntmps4
  go_wp2_with fail
  refine (wenc_not g x ao n c l _ (HD.out.grow ((Grow.refl w).alloc _)) HM.out).mono ?_
  rintro e w1 ⟨rfl, b1⟩
  have p10 : w1.cell? ⟨w.heap.size, 0, none⟩ = some (.int .i64 g) := (b1.cell (p := ⟨w.heap.size, 0, none⟩) (by simp)).trans (by simp [go_sem])
  have p11 : w1.cell? ⟨w.heap.size, 1, none⟩ = some (.int .i64 x) := (b1.cell (p := ⟨w.heap.size, 1, none⟩) (by simp)).trans (by simp [go_sem])
  have p12 : w1.cell? ⟨w.heap.size, 2, none⟩ = some (.slice ao n c) := (b1.cell (p := ⟨w.heap.size, 2, none⟩) (by simp)).trans (by simp [go_sem])
  have G1 := Lib.hid (((Grow.refl w).alloc _).trans b1)
  have z1 : w.heap.size < w1.heap.size := by have := b1.size; simp at this; omega
  clear b1
  go_wp2_with fail
  refine (renc_not g x ao n c l _ (HD.out.grow G1.out) HM.out).mono ?_
  rintro e w2 ⟨rfl, b2⟩
  have p20 : w2.cell? ⟨w.heap.size, 0, none⟩ = some (.int .i64 g) := (b2.cell (p := ⟨w.heap.size, 0, none⟩) (by simp; omega)).trans p10
  have p21 : w2.cell? ⟨w.heap.size, 1, none⟩ = some (.int .i64 x) := (b2.cell (p := ⟨w.heap.size, 1, none⟩) (by simp; omega)).trans p11
  have p22 : w2.cell? ⟨w.heap.size, 2, none⟩ = some (.slice ao n c) := (b2.cell (p := ⟨w.heap.size, 2, none⟩) (by simp; omega)).trans p12
  have G2 := Lib.hid (G1.out.trans b2)
  have z2 : w.heap.size < w2.heap.size := Nat.lt_of_lt_of_le z1 b2.size
  clear b2 p10 p11 p12 z1
  go_wp2_with fail
  refine (CK.out _ G2.out).mono ?_
  rintro e w3 ⟨rfl, b3⟩
  have p30 : w3.cell? ⟨w.heap.size, 0, none⟩ = some (.int .i64 g) := (b3.cell (p := ⟨w.heap.size, 0, none⟩) (by simp; omega)).trans p20
  have p31 : w3.cell? ⟨w.heap.size, 1, none⟩ = some (.int .i64 x) := (b3.cell (p := ⟨w.heap.size, 1, none⟩) (by simp; omega)).trans p21
  have p32 : w3.cell? ⟨w.heap.size, 2, none⟩ = some (.slice ao n c) := (b3.cell (p := ⟨w.heap.size, 2, none⟩) (by simp; omega)).trans p22
  have G3 := Lib.hid (G2.out.trans b3)
  have z3 : w.heap.size < w3.heap.size := Nat.lt_of_lt_of_le z2 b3.size
  clear b3 p20 p21 p22 z2
  go_wp2_with fail
  refine (CK.out _ G3.out).mono ?_
  rintro e w4 ⟨rfl, b4⟩
  have p40 : w4.cell? ⟨w.heap.size, 0, none⟩ = some (.int .i64 g) := (b4.cell (p := ⟨w.heap.size, 0, none⟩) (by simp; omega)).trans p30
  have p41 : w4.cell? ⟨w.heap.size, 1, none⟩ = some (.int .i64 x) := (b4.cell (p := ⟨w.heap.size, 1, none⟩) (by simp; omega)).trans p31
  have p42 : w4.cell? ⟨w.heap.size, 2, none⟩ = some (.slice ao n c) := (b4.cell (p := ⟨w.heap.size, 2, none⟩) (by simp; omega)).trans p32
  have G4 := Lib.hid (G3.out.trans b4)
  have z4 : w.heap.size < w4.heap.size := Nat.lt_of_lt_of_le z3 b4.size
  clear b4 p30 p31 p32 z3
  go_wp2
  refine wp_region_beyond w4.heap.size (by kernel_rfl) (by kernel_rfl) ?_
  have SIX := Lib.hid (six (g := g) (x := x) (i := i) HD.out G4.out w4.heap.size rfl)
  have r0 : ∀ y : Beyond w4.heap.size w4, y.w.cell? ⟨w.heap.size, 0, none⟩ = some (.int .i64 g) := fun y => (y.h.cell (p := ⟨w.heap.size, 0, none⟩) z4).trans p40
  have r1 : ∀ y : Beyond w4.heap.size w4, y.w.cell? ⟨w.heap.size, 1, none⟩ = some (.int .i64 x) := fun y => (y.h.cell (p := ⟨w.heap.size, 1, none⟩) z4).trans p41
  have r2 : ∀ y : Beyond w4.heap.size w4, y.w.cell? ⟨w.heap.size, 2, none⟩ = some (.slice ao n c) := fun y => (y.h.cell (p := ⟨w.heap.size, 2, none⟩) z4).trans p42
  repeat (go_big_quiet_step ((first
    | (go_at_call 8; exact Calls.beyond (Nat.le_refl _) (SIX.out _).1)
    | (go_at_call 13; exact Calls.beyond (Nat.le_refl _) (SIX.out _).2.1)
    | (go_at_call 7; exact Calls.beyond (Nat.le_refl _) (SIX.out _).2.2.1)
    | (go_at_call 14; exact Calls.beyond (Nat.le_refl _) (SIX.out _).2.2.2.1)
    | (go_at_call 15; exact Calls.beyond (Nat.le_refl _) (SIX.out _).2.2.2.2.1)
    | (go_at_call 16; exact Calls.beyond (Nat.le_refl _) (SIX.out _).2.2.2.2.2))))
  refine wpQuiet_nil ?_
  rintro w5 ⟨⟨_, b5⟩, rfl⟩
  clear r0 r1 r2 SIX
  have G5 := Lib.hid (G4.out.trans b5)
  clear b5 p40 p41 p42 z4
  go_wp2_with fail
  refine (known_any _).mono ?_
  rintro e w6 ⟨rfl, b6⟩
  go_wp2
  go_ret
  exact ⟨rfl, G5.out.trans b6⟩

set_option maxHeartbeats 4000000 in
theorem lenc_yes (g x i : Int) (b o n c n2 c2 : Nat) (ad : Addr) (MS : List Value) (l : List (Int × Int)) (w : World) (h : Hd w (some ⟨b, o, none⟩) n c l) (hn2 : n2 ≤ 2000) (hm : May g x l) (hmu : AllU8 MS) (hml : MS.length = n2) (hsr : ∀ W, Grow w W → ∀ j u, MS[j]? = some u → W.cell? (ad.add j) = some u) :
    Calls Try.prog 4 #[.agg #[.int .i64 g, .int .i64 x, .slice (some ⟨b, o, none⟩) n c], .int .i64 i, .slice (some ad) n2 c2] w fun e w' => e = .returned (.bool true) ∧ Below w.heap.size w w' := by
  obtain ⟨i0, hi0, hz0, hz1, hz2⟩ := info_parts Try.info5
  have n18 := h.ear hm
  have h' : ¬ (60 : Int) < (n : Int) := by omega
  have h'' : ¬ (2000 : Int) < (n2 : Int) := by omega
  have HD := Lib.hid h
  have HM := Lib.hid hm
  have HL := Lib.hid h.1
  have CK := Lib.hid (check_yes h hm)
  have U8 := Lib.hid (hdB_u8 hm)
  obtain ⟨ao, hao⟩ : ∃ ao : Option Addr, ao = some ⟨b, o, none⟩ := ⟨_, rfl⟩
  have MU := Lib.hid hmu
  have ML := Lib.hid hml
  have SRCM := Lib.hid hsr
  clear hmu hml hsr

  have WE := fun W (hG : Grow w W) => wenc_yes g x b o n c l W (h.grow hG) hm
  have RE := fun W (hG : Grow w W) => renc_yes g x b o n c l W (h.grow hG) hm
  obtain ⟨K, hK⟩ : ∃ K, K = 16 + 12 * n := ⟨_, rfl⟩
  rw [← hK, ← hao] at WE RE
  rw [← hao] at HD CK ⊢
  have HK := Lib.hid hK
  have kk : K ≤ 112 := by omega
  have KP : 0 < K := by omega
  have LB := Lib.hid (show (hdB g x l).length = K from by rw [hdB_length, h.1, hK])
  have HWE := Lib.hid WE
  have HRE := Lib.hid RE
  clear WE RE
  obtain ⟨s, hs⟩ : ∃ s, s = strOf (hdB g x l) := ⟨_, rfl⟩
  have S := Lib.hid hs
  clear h hm hK hs hao
  go_enter Try.func4, Try.ntmps4
  go_wp2_with fail
  refine (HWE.out _ ((Grow.refl w).alloc _)).mono ?_
  rintro e w1 ⟨g1, c1, rfl, o1, b1⟩
  have p10 : w1.cell? ⟨w.heap.size, 0, none⟩ = some (.int .i64 g) := (b1.cell (p := ⟨w.heap.size, 0, none⟩) (by simp)).trans (by simp [go_sem])
  have p11 : w1.cell? ⟨w.heap.size, 1, none⟩ = some (.int .i64 x) := (b1.cell (p := ⟨w.heap.size, 1, none⟩) (by simp)).trans (by simp [go_sem])
  have p12 : w1.cell? ⟨w.heap.size, 2, none⟩ = some (.slice ao n c) := (b1.cell (p := ⟨w.heap.size, 2, none⟩) (by simp)).trans (by simp [go_sem])
  have G1 := Lib.hid (((Grow.refl w).alloc _).trans b1)
  have z1 : w.heap.size < w1.heap.size := by have := b1.size; simp at this; omega
  have O1 := Lib.hid o1
  clear b1 o1
  go_wp2_with fail
  refine (HRE.out _ G1.out).mono ?_
  rintro e w2 ⟨g3, c3, rfl, o2, b2⟩
  have p20 : w2.cell? ⟨w.heap.size, 0, none⟩ = some (.int .i64 g) := (b2.cell (p := ⟨w.heap.size, 0, none⟩) (by simp; omega)).trans p10
  have p21 : w2.cell? ⟨w.heap.size, 1, none⟩ = some (.int .i64 x) := (b2.cell (p := ⟨w.heap.size, 1, none⟩) (by simp; omega)).trans p11
  have p22 : w2.cell? ⟨w.heap.size, 2, none⟩ = some (.slice ao n c) := (b2.cell (p := ⟨w.heap.size, 2, none⟩) (by simp; omega)).trans p12
  have G2 := Lib.hid (G1.out.trans b2)
  have z2 : w.heap.size < w2.heap.size := Nat.lt_of_lt_of_le z1 b2.size
  have R1 := (rdB_own O1.out U8.out (own_cap O1.out)).grow b2
  have R2 := rdB_own o2 U8.out (own_cap o2)
  have cv1 : (convert 31 9 (.slice (some ⟨g1, 0, none⟩) K c1)).run Try.prog w2 = .ok (.string s) w2 := by rw [S.out]; exact conv_cells LB.out R1.1 R1.2.2.2
  have cv2 : (convert 31 9 (.slice (some ⟨g3, 0, none⟩) K c3)).run Try.prog w2 = .ok (.string s) w2 := by rw [S.out]; exact conv_cells LB.out R2.1 R2.2.2.2
  have O2 := Lib.hid (own_below O1.out b2)
  clear b2 p10 p11 p12 z1 R1 R2 O1 o2
  go_wp2_with fail
  refine (CK.out _ G2.out).mono ?_
  rintro e w3 ⟨rfl, b3⟩
  have p30 : w3.cell? ⟨w.heap.size, 0, none⟩ = some (.int .i64 g) := (b3.cell (p := ⟨w.heap.size, 0, none⟩) (by simp; omega)).trans p20
  have p31 : w3.cell? ⟨w.heap.size, 1, none⟩ = some (.int .i64 x) := (b3.cell (p := ⟨w.heap.size, 1, none⟩) (by simp; omega)).trans p21
  have p32 : w3.cell? ⟨w.heap.size, 2, none⟩ = some (.slice ao n c) := (b3.cell (p := ⟨w.heap.size, 2, none⟩) (by simp; omega)).trans p22
  have G3 := Lib.hid (G2.out.trans b3)
  have z3 : w.heap.size < w3.heap.size := Nat.lt_of_lt_of_le z2 b3.size
  have O3 := Lib.hid (own_below O2.out b3)
  clear b3 p20 p21 p22 z2 O2 cv1 cv2
  go_wp2
  refine wp_region_beyond w3.heap.size (by kernel_rfl) (by kernel_rfl) ?_
  have SIX := Lib.hid (six (g := g) (x := x) (i := i) HD.out G3.out w3.heap.size rfl)
  have r0 : ∀ y : Beyond w3.heap.size w3, y.w.cell? ⟨w.heap.size, 0, none⟩ = some (.int .i64 g) := fun y => (y.h.cell (p := ⟨w.heap.size, 0, none⟩) z3).trans p30
  have r1 : ∀ y : Beyond w3.heap.size w3, y.w.cell? ⟨w.heap.size, 1, none⟩ = some (.int .i64 x) := fun y => (y.h.cell (p := ⟨w.heap.size, 1, none⟩) z3).trans p31
  have r2 : ∀ y : Beyond w3.heap.size w3, y.w.cell? ⟨w.heap.size, 2, none⟩ = some (.slice ao n c) := fun y => (y.h.cell (p := ⟨w.heap.size, 2, none⟩) z3).trans p32
  repeat (go_big_quiet_step ((first
    | (go_at_call 8; exact Calls.beyond (Nat.le_refl _) (SIX.out _).1)
    | (go_at_call 13; exact Calls.beyond (Nat.le_refl _) (SIX.out _).2.1)
    | (go_at_call 7; exact Calls.beyond (Nat.le_refl _) (SIX.out _).2.2.1)
    | (go_at_call 14; exact Calls.beyond (Nat.le_refl _) (SIX.out _).2.2.2.1)
    | (go_at_call 15; exact Calls.beyond (Nat.le_refl _) (SIX.out _).2.2.2.2.1)
    | (go_at_call 16; exact Calls.beyond (Nat.le_refl _) (SIX.out _).2.2.2.2.2))))
  refine wpQuiet_nil ?_
  rintro w4 ⟨⟨_, b4⟩, rfl⟩
  clear r0 r1 r2 SIX
  have p40 := (b4.cell (p := ⟨w.heap.size, 0, none⟩) z3).trans p30
  have p41 := (b4.cell (p := ⟨w.heap.size, 1, none⟩) z3).trans p31
  have p42 := (b4.cell (p := ⟨w.heap.size, 2, none⟩) z3).trans p32
  have G4 := Lib.hid (G3.out.trans b4)
  have z4 : w.heap.size < w4.heap.size := Nat.lt_of_lt_of_le z3 b4.size
  have O4 := own_below O3.out b4
  have SRC := Lib.hid (src_of (c := c1) LB.out ((src0_own O4 U8.out).alloc (.cells #[] 5)) (fun _ => rfl))
  have OWN0 := Lib.hid (ownsRow_empty0 w4 (w.heap.size + 1) 5 1 z4)
  have hB : w.heap.size + 1 ≤ (w4.alloc (.cells #[] 5)).heap.size := by simp; omega
  clear b4 p30 p31 p32 z3 O3 O4
  go_wp2_with (first
    | (at_builtin; refine wpList_append_fresh _ (by rfl) _ _ 31 31 (by rfl) (w.heap.size + 1) 5 i0 _ 1 1 Try.underlying31 hi0 hz0 hz1 hz2 rfl _ (by rfl) (.inr ⟨w4.heap.size, rfl⟩) OWN0.out _ (by rfl) K (hdB g x l) SRC.out (by unfold maxLen; omega) (by omega) hB ?_; intro v5 w5 hown5 hgr5 hf5 hz5; obtain ⟨c5, hv5⟩ := hf5 KP; rw [World.size_alloc] at hv5; subst hv5; have K5 := Lib.hid (((Grow.refl w4).alloc (.cells #[] 5)).trans hgr5); have G5 := Lib.hid (G4.out.trans K5.out); have z5 := Nat.lt_of_lt_of_le z4 K5.out.size; have O5 := Lib.hid hown5; clear hown5 hgr5 hf5 hz5)
    | (at_builtin; refine wpList_append_own _ (by rfl) _ _ _ (by rfl) (w.heap.size + 1) 5 i0 _ 1 1 Try.underlying31 hi0 hz0 hz1 hz2 rfl (by omega) _ K (hdB g x l) (by rfl) O5.out ad n2 c2 MS (by rfl) (by rw [ML.out, Nat.mul_one]) (fun j u hu => SRCM.out _ G5.out j u hu) MU.out.one (by unfold maxLen; omega) (by omega) z5 ?_; intro v6 w6 hown6 hgr6 hnil6; have H6 := Lib.hid (And.intro hown6 (And.intro hgr6 hnil6)); clear hown6 hgr6 hnil6))
  have p50 := (Below.cell K5.out (p := ⟨w.heap.size, 0, none⟩) z4).trans p40
  have p51 := (Below.cell K5.out (p := ⟨w.heap.size, 1, none⟩) z4).trans p41
  have p52 := (Below.cell K5.out (p := ⟨w.heap.size, 2, none⟩) z4).trans p42
  clear p40 p41 p42 z4 OWN0 hB SRC K5
  obtain ⟨hown6, hgr6, _⟩ := H6.out
  obtain ⟨g6, c6, rfl, _, _⟩ := hown6.form (by omega)
  have k6 : Below (w.heap.size + 1) w5 w6 := (Below.refl _ _).grown hgr6 z5 (fun q hq => (O5.out.lt q hq).1)
  have p60 := (Below.cell k6 (p := ⟨w.heap.size, 0, none⟩) (by simp)).trans p50
  have p61 := (Below.cell k6 (p := ⟨w.heap.size, 1, none⟩) (by simp)).trans p51
  have p62 := (Below.cell k6 (p := ⟨w.heap.size, 2, none⟩) (by simp)).trans p52
  have G6 : Hid (Grow w w6) := Lib.hid (Below.trans G5.out (k6.mono (Nat.le_succ _)))
  have z6 : w.heap.size < w6.heap.size := Nat.lt_of_lt_of_le z5 k6.size
  have O6 := Lib.hid hown6
  clear H6 hown6 hgr6 k6 p50 p51 p52 z5 O5
  have HD6 := Lib.hid (HD.out.grow G6.out)
  have BK := Lib.hid (back HM.out (by rw [HL.out]; exact n18) MS)
  have hu6 : AllU8 (hdB g x l ++ MS) := fun u hu => by
    rcases List.mem_append.1 hu with hu | hu
    · exact U8.out u hu
    · exact MU.out u hu
  have W6 := Lib.hid (wdec (some ⟨g6, 0, none⟩) (K + n2) c6 g6 0 (hdB g x l ++ MS) w6 (by rw [List.length_append, LB.out, ML.out]) (own_cap O6.out) (src0_own (O6.out) hu6) (fun _ => rfl))
  clear hu6
  go_wp2_with fail
  refine W6.out.mono ?_
  rintro e w7 hp
  clear W6
  rcases hp with ⟨_, ao7, c7, rfl, hd7, b7⟩ | ⟨hno, _, _⟩
  · rw [BK.out.2.2.2.1, BK.out.2.2.2.2] at hd7
    rw [BK.out.2.1, BK.out.2.2.1, BK.out.2.2.2.1]
    have p70 := (b7.cell (p := ⟨w.heap.size, 0, none⟩) z6).trans p60
    have p71 := (b7.cell (p := ⟨w.heap.size, 1, none⟩) z6).trans p61
    have p72 := (b7.cell (p := ⟨w.heap.size, 2, none⟩) z6).trans p62
    have G7 := Lib.hid (G6.out.trans b7)
    have z7 : w.heap.size < w7.heap.size := Nat.lt_of_lt_of_le z6 b7.size
    rw [HL.out] at hd7 ⊢
    have HD7 := Lib.hid hd7
    clear b7 p60 p61 p62 z6 hd7
    go_wp2_with fail
    refine (headers_any g x ao7 ao n c7 c l _ (HD7.out.grow ((Grow.refl w7).alloc _)) (HD.out.grow (G7.out.alloc _)) (by omega)).mono ?_
    rintro e w8 ⟨rfl, b8⟩
    have G8 := Lib.hid ((G7.out.alloc _).trans b8)
    clear b8
    go_wp2_with fail
    refine (known_any _).mono ?_
    rintro e w9 ⟨rfl, b9⟩
    go_wp2
    go_ret
    exact ⟨rfl, G8.out.trans b9⟩
  · exact absurd BK.out.1 hno

set_option maxHeartbeats 4000000 in
theorem lenc_yes0 (g x i : Int) (b o n c : Nat) (l : List (Int × Int)) (w : World) (h : Hd w (some ⟨b, o, none⟩) n c l) (hm : May g x l) :
    Calls Try.prog 4 #[.agg #[.int .i64 g, .int .i64 x, .slice (some ⟨b, o, none⟩) n c], .int .i64 i, .slice none 0 0] w fun e w' => e = .returned (.bool true) ∧ Below w.heap.size w w' := by
  obtain ⟨i0, hi0, hz0, hz1, hz2⟩ := info_parts Try.info5
  have n18 := h.ear hm
  have h' : ¬ (60 : Int) < (n : Int) := by omega
  have h'' : ¬ (2000 : Int) < ((0 : Nat) : Int) := by omega
  have HD := Lib.hid h
  have HM := Lib.hid hm
  have HL := Lib.hid h.1
  have CK := Lib.hid (check_yes h hm)
  have U8 := Lib.hid (hdB_u8 hm)
  obtain ⟨ao, hao⟩ : ∃ ao : Option Addr, ao = some ⟨b, o, none⟩ := ⟨_, rfl⟩
  have MU : Hid (AllU8 []) := Lib.hid (fun u hu => by simp at hu)

  have WE := fun W (hG : Grow w W) => wenc_yes g x b o n c l W (h.grow hG) hm
  have RE := fun W (hG : Grow w W) => renc_yes g x b o n c l W (h.grow hG) hm
  obtain ⟨K, hK⟩ : ∃ K, K = 16 + 12 * n := ⟨_, rfl⟩
  rw [← hK, ← hao] at WE RE
  rw [← hao] at HD CK ⊢
  have HK := Lib.hid hK
  have kk : K ≤ 112 := by omega
  have KP : 0 < K := by omega
  have LB := Lib.hid (show (hdB g x l).length = K from by rw [hdB_length, h.1, hK])
  have HWE := Lib.hid WE
  have HRE := Lib.hid RE
  clear WE RE
  obtain ⟨s, hs⟩ : ∃ s, s = strOf (hdB g x l) := ⟨_, rfl⟩
  have S := Lib.hid hs
  clear h hm hK hs hao
  go_enter Try.func4, Try.ntmps4
  go_wp2_with fail
  refine (HWE.out _ ((Grow.refl w).alloc _)).mono ?_
  rintro e w1 ⟨g1, c1, rfl, o1, b1⟩
  have p10 : w1.cell? ⟨w.heap.size, 0, none⟩ = some (.int .i64 g) := (b1.cell (p := ⟨w.heap.size, 0, none⟩) (by simp)).trans (by simp [go_sem])
  have p11 : w1.cell? ⟨w.heap.size, 1, none⟩ = some (.int .i64 x) := (b1.cell (p := ⟨w.heap.size, 1, none⟩) (by simp)).trans (by simp [go_sem])
  have p12 : w1.cell? ⟨w.heap.size, 2, none⟩ = some (.slice ao n c) := (b1.cell (p := ⟨w.heap.size, 2, none⟩) (by simp)).trans (by simp [go_sem])
  have G1 := Lib.hid (((Grow.refl w).alloc _).trans b1)
  have z1 : w.heap.size < w1.heap.size := by have := b1.size; simp at this; omega
  have O1 := Lib.hid o1
  clear b1 o1
  go_wp2_with fail
  refine (HRE.out _ G1.out).mono ?_
  rintro e w2 ⟨g3, c3, rfl, o2, b2⟩
  have p20 : w2.cell? ⟨w.heap.size, 0, none⟩ = some (.int .i64 g) := (b2.cell (p := ⟨w.heap.size, 0, none⟩) (by simp; omega)).trans p10
  have p21 : w2.cell? ⟨w.heap.size, 1, none⟩ = some (.int .i64 x) := (b2.cell (p := ⟨w.heap.size, 1, none⟩) (by simp; omega)).trans p11
  have p22 : w2.cell? ⟨w.heap.size, 2, none⟩ = some (.slice ao n c) := (b2.cell (p := ⟨w.heap.size, 2, none⟩) (by simp; omega)).trans p12
  have G2 := Lib.hid (G1.out.trans b2)
  have z2 : w.heap.size < w2.heap.size := Nat.lt_of_lt_of_le z1 b2.size
  have R1 := (rdB_own O1.out U8.out (own_cap O1.out)).grow b2
  have R2 := rdB_own o2 U8.out (own_cap o2)
  have cv1 : (convert 31 9 (.slice (some ⟨g1, 0, none⟩) K c1)).run Try.prog w2 = .ok (.string s) w2 := by rw [S.out]; exact conv_cells LB.out R1.1 R1.2.2.2
  have cv2 : (convert 31 9 (.slice (some ⟨g3, 0, none⟩) K c3)).run Try.prog w2 = .ok (.string s) w2 := by rw [S.out]; exact conv_cells LB.out R2.1 R2.2.2.2
  have O2 := Lib.hid (own_below O1.out b2)
  clear b2 p10 p11 p12 z1 R1 R2 O1 o2
  go_wp2_with fail
  refine (CK.out _ G2.out).mono ?_
  rintro e w3 ⟨rfl, b3⟩
  have p30 : w3.cell? ⟨w.heap.size, 0, none⟩ = some (.int .i64 g) := (b3.cell (p := ⟨w.heap.size, 0, none⟩) (by simp; omega)).trans p20
  have p31 : w3.cell? ⟨w.heap.size, 1, none⟩ = some (.int .i64 x) := (b3.cell (p := ⟨w.heap.size, 1, none⟩) (by simp; omega)).trans p21
  have p32 : w3.cell? ⟨w.heap.size, 2, none⟩ = some (.slice ao n c) := (b3.cell (p := ⟨w.heap.size, 2, none⟩) (by simp; omega)).trans p22
  have G3 := Lib.hid (G2.out.trans b3)
  have z3 : w.heap.size < w3.heap.size := Nat.lt_of_lt_of_le z2 b3.size
  have O3 := Lib.hid (own_below O2.out b3)
  clear b3 p20 p21 p22 z2 O2 cv1 cv2
  go_wp2
  refine wp_region_beyond w3.heap.size (by kernel_rfl) (by kernel_rfl) ?_
  have SIX := Lib.hid (six (g := g) (x := x) (i := i) HD.out G3.out w3.heap.size rfl)
  have r0 : ∀ y : Beyond w3.heap.size w3, y.w.cell? ⟨w.heap.size, 0, none⟩ = some (.int .i64 g) := fun y => (y.h.cell (p := ⟨w.heap.size, 0, none⟩) z3).trans p30
  have r1 : ∀ y : Beyond w3.heap.size w3, y.w.cell? ⟨w.heap.size, 1, none⟩ = some (.int .i64 x) := fun y => (y.h.cell (p := ⟨w.heap.size, 1, none⟩) z3).trans p31
  have r2 : ∀ y : Beyond w3.heap.size w3, y.w.cell? ⟨w.heap.size, 2, none⟩ = some (.slice ao n c) := fun y => (y.h.cell (p := ⟨w.heap.size, 2, none⟩) z3).trans p32
  repeat (go_big_quiet_step ((first
    | (go_at_call 8; exact Calls.beyond (Nat.le_refl _) (SIX.out _).1)
    | (go_at_call 13; exact Calls.beyond (Nat.le_refl _) (SIX.out _).2.1)
    | (go_at_call 7; exact Calls.beyond (Nat.le_refl _) (SIX.out _).2.2.1)
    | (go_at_call 14; exact Calls.beyond (Nat.le_refl _) (SIX.out _).2.2.2.1)
    | (go_at_call 15; exact Calls.beyond (Nat.le_refl _) (SIX.out _).2.2.2.2.1)
    | (go_at_call 16; exact Calls.beyond (Nat.le_refl _) (SIX.out _).2.2.2.2.2))))
  refine wpQuiet_nil ?_
  rintro w4 ⟨⟨_, b4⟩, rfl⟩
  clear r0 r1 r2 SIX
  have p40 := (b4.cell (p := ⟨w.heap.size, 0, none⟩) z3).trans p30
  have p41 := (b4.cell (p := ⟨w.heap.size, 1, none⟩) z3).trans p31
  have p42 := (b4.cell (p := ⟨w.heap.size, 2, none⟩) z3).trans p32
  have G4 := Lib.hid (G3.out.trans b4)
  have z4 : w.heap.size < w4.heap.size := Nat.lt_of_lt_of_le z3 b4.size
  have O4 := own_below O3.out b4
  have SRC := Lib.hid (src_of (c := c1) LB.out ((src0_own O4 U8.out).alloc (.cells #[] 5)) (fun _ => rfl))
  have OWN0 := Lib.hid (ownsRow_empty0 w4 (w.heap.size + 1) 5 1 z4)
  have hB : w.heap.size + 1 ≤ (w4.alloc (.cells #[] 5)).heap.size := by simp; omega
  clear b4 p30 p31 p32 z3 O3 O4
  go_wp2_with (first
    | (at_builtin; refine wpList_append_fresh _ (by rfl) _ _ 31 31 (by rfl) (w.heap.size + 1) 5 i0 _ 1 1 Try.underlying31 hi0 hz0 hz1 hz2 rfl _ (by rfl) (.inr ⟨w4.heap.size, rfl⟩) OWN0.out _ (by rfl) K (hdB g x l) SRC.out (by unfold maxLen; omega) (by omega) hB ?_; intro v5 w5 hown5 hgr5 hf5 hz5; obtain ⟨c5, hv5⟩ := hf5 KP; rw [World.size_alloc] at hv5; subst hv5; have K5 := Lib.hid (((Grow.refl w4).alloc (.cells #[] 5)).trans hgr5); have G5 := Lib.hid (G4.out.trans K5.out); have z5 := Nat.lt_of_lt_of_le z4 K5.out.size; have O5 := Lib.hid hown5; clear hown5 hgr5 hf5 hz5)
    | (at_builtin; refine wpList_append_own_none (by rfl) _ _ _ (by rfl) (w.heap.size + 1) 5 i0 1 Try.underlying31 hi0 _ K (hdB g x l) (by rfl) O5.out (by rfl) ?_))
  have p50 := (Below.cell K5.out (p := ⟨w.heap.size, 0, none⟩) z4).trans p40
  have p51 := (Below.cell K5.out (p := ⟨w.heap.size, 1, none⟩) z4).trans p41
  have p52 := (Below.cell K5.out (p := ⟨w.heap.size, 2, none⟩) z4).trans p42
  clear p40 p41 p42 z4 OWN0 hB SRC K5
  obtain ⟨g6, hg6⟩ : ∃ g6, g6 = w4.heap.size + 1 := ⟨_, rfl⟩
  rw [← hg6] at O5 ⊢
  clear hg6
  have HD6 := Lib.hid (HD.out.grow G5.out)
  have BK := Lib.hid (back HM.out (by rw [HL.out]; exact n18) [])
  have hu6 : AllU8 (hdB g x l ++ []) := fun u hu => by
    rcases List.mem_append.1 hu with hu | hu
    · exact U8.out u hu
    · exact MU.out u hu
  have W6 := Lib.hid (wdec (some ⟨g6, 0, none⟩) (K) c5 g6 0 (hdB g x l ++ []) w5 (by rw [List.append_nil, LB.out]) (own_cap O5.out) (src0_own (by rw [List.append_nil]; exact O5.out) hu6) (fun _ => rfl))
  clear hu6
  go_wp2_with fail
  refine W6.out.mono ?_
  rintro e w7 hp
  clear W6
  rcases hp with ⟨_, ao7, c7, rfl, hd7, b7⟩ | ⟨hno, _, _⟩
  · rw [BK.out.2.2.2.1, BK.out.2.2.2.2] at hd7
    rw [BK.out.2.1, BK.out.2.2.1, BK.out.2.2.2.1]
    have p70 := (b7.cell (p := ⟨w.heap.size, 0, none⟩) z5).trans p50
    have p71 := (b7.cell (p := ⟨w.heap.size, 1, none⟩) z5).trans p51
    have p72 := (b7.cell (p := ⟨w.heap.size, 2, none⟩) z5).trans p52
    have G7 := Lib.hid (G5.out.trans b7)
    have z7 : w.heap.size < w7.heap.size := Nat.lt_of_lt_of_le z5 b7.size
    rw [HL.out] at hd7 ⊢
    have HD7 := Lib.hid hd7
    clear b7 p50 p51 p52 z5 hd7
    go_wp2_with fail
    refine (headers_any g x ao7 ao n c7 c l _ (HD7.out.grow ((Grow.refl w7).alloc _)) (HD.out.grow (G7.out.alloc _)) (by omega)).mono ?_
    rintro e w8 ⟨rfl, b8⟩
    have G8 := Lib.hid ((G7.out.alloc _).trans b8)
    clear b8
    go_wp2_with fail
    refine (known_any _).mono ?_
    rintro e w9 ⟨rfl, b9⟩
    go_wp2
    go_ret
    exact ⟨rfl, G8.out.trans b9⟩
  · exact absurd BK.out.1 hno

theorem lenc_any (g x i : Int) (ao am : Option Addr) (n c n2 c2 : Nat) (l : List (Int × Int)) (zs : List Int) (w : World) (h : Hd w ao n c l) (hz : IsRow .u8 w am n2 c2 zs) :
    Calls Try.prog 4 #[.agg #[.int .i64 g, .int .i64 x, .slice ao n c], .int .i64 i, .slice am n2 c2] w fun e w' => e = .returned (.bool true) ∧ Below w.heap.size w w' := by
  by_cases hb : 60 < n ∨ 2000 < n2
  · exact lenc_big g x i ao am n c n2 c2 w hb
  · by_cases hm : May g x l
    · obtain ⟨b, o, rfl, _⟩ := h.2.2.2 (by have := h.ear hm; omega)
      rcases hz with ⟨rfl, rfl, rfl, rfl⟩ | ⟨ad, rfl, h1, h2, h3, h4, h5⟩
      · exact lenc_yes0 g x i b o n c l w h hm
      · refine lenc_yes g x i b o n c n2 c2 ad ((zs.take n2).map (.int .u8)) l w h (by omega) hm (fun u hu => ?_) (by simp; omega) (fun W hG j u hj => ?_)
        · obtain ⟨z, hz, rfl⟩ := List.mem_map.1 hu
          obtain ⟨a1, a2⟩ := u8_of (h5 z (List.mem_of_mem_take hz))
          exact ⟨z, rfl, a1, a2⟩
        · have hjn : j < n2 := by
            rcases Nat.lt_or_ge j n2 with h | h
            · exact h
            · rw [List.getElem?_eq_none (by simp; omega)] at hj; cases hj
          have hcell := h4 j (by omega)
          have e : u = .int .u8 (zs.getD j 0) := by
            simp [List.getElem?_map, List.getElem?_take, hjn] at hj
            obtain ⟨a, ha, rfl⟩ := hj
            simp [List.getD, ha]
          subst e
          exact (Below.cell hG (World.block_lt_of_cell? w _ hcell)).trans hcell
    · exact lenc_no g x i ao am n c n2 c2 l w h (by omega) (by omega) hm

end Go.Proofs.Ytcfcdajglfipeaa
