/-
  Sets of bytes in memory: the walk of six.
-/
import Derived.Test.YtldcbkememonaaaPb
import Derived.Test.YtldcbkememonaaaPa
import Derived.Laws.Rows
import Derived.Laws.Tables
import Derived.BigQuiet

namespace Go.Proofs.Ytldcbkememonaaa
open Go.RowKit
set_option linter.unusedVariables false
set_option linter.unusedSimpArgs false

/-- a set's 256 cells -/
def arrC (m : Nat → Bool) : Array Value := ((List.range 256).map fun i => Value.bool (m i)).toArray
theorem arrC_size (m : Nat → Bool) : (arrC m).size = 256 := by simp [arrC]
theorem arrC_at (m : Nat → Bool) (i : Nat) (h : i < 256) : (arrC m)[i]? = some (.bool (m i)) := by
  simp [arrC, h]
theorem arrC_set (m : Nat → Bool) (i : Nat) (b : Bool) : (arrC m).setIfInBounds i (.bool b) = arrC (fun j => if j = i then b else m j) := by
  apply Array.ext_getElem?
  intro j
  rw [Array.getElem?_setIfInBounds]
  by_cases hj : j < 256
  · rw [arrC_at _ j hj, arrC_at _ j hj]
    by_cases e : i = j
    · subst e; simp [arrC_size, hj]
    · have e' : ¬ j = i := fun h => e h.symm
      simp [e, e']
  · have h1 : ∀ m, (arrC m)[j]? = none := fun m => Array.getElem?_eq_none (by rw [arrC_size]; omega)
    rw [h1, h1]
    by_cases e : i = j
    · subst e; simp [arrC_size, hj]
    · simp [e]
theorem arrC_one (m : Nat → Bool) : (arrC m).all (·.oneCell') = true := by
  simp [arrC, Value.oneCell']
theorem arrC_congr {m m' : Nat → Bool} (h : ∀ i, i < 256 → m i = m' i) : arrC m = arrC m' := by
  unfold arrC
  congr 1
  exact List.map_congr_left fun i hi => by rw [h i (List.mem_range.1 hi)]
theorem zero110 : Try.zeroCells110 = arrC (fun _ => false) := by kernel_rfl
theorem size110 : (Try.prog.info? 110).map (·.size) = some 256 := by kernel_rfl
theorem und110 : Try.prog.underlying 110 = some (.array 256 4) := by kernel_rfl

theorem size_arr (m : Nat → Bool) : (Try.prog.info? 110).map (·.size) = some (arrC m).size := by rw [arrC_size]; exact size110
/-- block g of w is the set m -/
def Arr (w : World) (g : Nat) (m : Nat → Bool) : Prop := w.heap[g]? = some (.cells (arrC m) 110 (0, 0))
theorem Arr.cell {w : World} {g : Nat} {m : Nat → Bool} (h : Arr w g m) {i : Nat} (hi : i < 256) : w.cell? ⟨g, i, none⟩ = some (.bool (m i)) := by
  unfold Arr at h
  simp [World.cell?, h, arrC_at m i hi]
theorem Arr.froz {w : World} {g : Nat} {m : Nat → Bool} (h : Arr w g m) (i : Nat) : w.frozen? ⟨g, i, none⟩ = false := by
  unfold Arr at h
  simp [World.frozen?, h]
theorem Arr.set {w : World} {g : Nat} {m : Nat → Bool} (h : Arr w g m) (i : Nat) (b : Bool) : Arr (w.setCell ⟨g, i, none⟩ (.bool b)) g (fun j => if j = i then b else m j) := by
  unfold Arr at *
  rw [Go.heap_setCell_same w g i _ _ _ h, arrC_set]
theorem Arr.new (w : World) : Arr (w.alloc (.cells Try.zeroCells110 110)) w.heap.size (fun _ => false) := by
  unfold Arr
  rw [heap_alloc_new, zero110]
theorem Arr.lt {w : World} {g : Nat} {m : Nat → Bool} (h : Arr w g m) : g < w.heap.size := by
  rcases Nat.lt_or_ge g w.heap.size with h1 | h1
  · exact h1
  · unfold Arr at h; rw [Array.getElem?_eq_none h1] at h; cases h
theorem Arr.below {w w' : World} {g B : Nat} {m : Nat → Bool} (h : Arr w g m) (hb : Below B w w') (hg : g < B) : Arr w' g m := (hb.block g hg).trans h

theorem Arr.row {w : World} {g : Nat} {m : Nat → Bool} (h : Arr w g m) (m' : Nat → Bool) : Arr (w.setRow g (arrC m')) g m' := setRow_heap w g _ _ _ _ h
theorem below_row {B g : Nat} {a w : World} (h : Below B a w) (cs : Array Value) (hg : B ≤ g := by first | exact Nat.le_refl _ | omega) : Below B a (w.setRow g cs) := h.trans ⟨rfl, rfl, rfl, by simp, fun k hk => setRow_other w g k cs (by omega)⟩
theorem results63 (tmps : Array Value) (w : World) (g : Nat) (m : Nat → Bool) (b : Bool) (h2 : tmps[2]? = some (.pointer (some ⟨g, 0, none⟩))) (h3 : tmps[3]? = some (.bool b)) (h : Arr w g m) :
    (results Try.f63 tmps).run Try.prog w = .ok (.tuple #[.agg (arrC m), .bool b]) w := by
  have e := run_loadVar_row (P := Try.prog) w g 110 110 (arrC m) (0, 0) _ h und110 rfl (by rw [arrC_size]; exact size110)
  simp [results, Try.results63, h2, h3, asAddr, e]
/-- what 'six' has after k rounds -/
def sixTo (c k : Nat) (j : Nat) : Bool := decide (j < k) && sixM c j

set_option maxHeartbeats 1000000 in
theorem six_no (c : Nat) (hc : c < 256) (h : sixOk c = false) (w : World) :
    Calls Try.prog 63 #[.int .u8 c] w fun e w' => e = .returned (.tuple #[.agg (arrC fun _ => false), .bool false]) ∧ Below w.heap.size w w' := by
  have d : c ≠ 100 ∧ c ≠ 68 ∧ c ≠ 119 ∧ c ≠ 87 ∧ c ≠ 115 ∧ c ≠ 83 := by
    simp [sixOk, isD, isW, isS] at h; omega
  obtain ⟨d1, d2, d3, d4, d5, d6⟩ := d
  have e1 : ((c : Int) == 100) = false := by simp; omega
  have e2 : ((c : Int) == 68) = false := by simp; omega
  have e3 : ((c : Int) == 119) = false := by simp; omega
  have e4 : ((c : Int) == 87) = false := by simp; omega
  have e5 : ((c : Int) == 115) = false := by simp; omega
  have e6 : ((c : Int) == 83) = false := by simp; omega
  have hA := Lib.hid ((Arr.new (w.alloc (.cells Try.zeroCells110 110))))
  clear h d1 d2 d3 d4 d5 d6
  obtain ⟨W1, hW⟩ : ∃ W1, W1 = (w.alloc (.cells Try.zeroCells110 110)).alloc (.cells Try.zeroCells110 110) := ⟨_, rfl⟩
  have a1 : Arr W1 (w.heap.size + 1) (fun _ => false) := by rw [hW]; have := Arr.new (w.alloc (.cells Try.zeroCells110 110)); simpa using this
  have a0 : Arr W1 w.heap.size (fun _ => false) := by rw [hW]; exact (Arr.new w).below ((Below.refl (w.heap.size + 1) _).alloc (by simp) _) (by omega)
  have B1 := Lib.hid (show Below w.heap.size w W1 by rw [hW]; exact ((Below.refl _ _).alloc (Nat.le_refl _) _).alloc (by simp) _)
  have A0 := Lib.hid a0
  have A1 := Lib.hid a1
  have HW := Lib.hid hW
  clear hW a0 a1 hA
  have LS := Lib.hid (size_arr fun _ => false)
  go_enter Try.func63, Try.ntmps63
  go_wp2
  rw [← HW.out]
  refine wp_loop_rounds 1 ?_
  rw [rounds_succ]
  go_wp2_with (first
    | (refine wpList_load_row rfl 110 _ rfl (w.heap.size + 1) rfl 110 (arrC fun _ => false) (0, 0) _ A1.out und110 rfl LS.out ?_)
    | (refine wpList_store_row rfl 110 _ _ rfl w.heap.size (arrC fun _ => false) rfl rfl 110 _ A0.out LS.out rfl (arrC_one _) ?_))
  refine bodyPost_ret (v := .tuple #[.agg (arrC fun _ => false), .bool false]) (results63 _ _ w.heap.size _ _ rfl rfl (A0.out.row _)) rfl ⟨rfl, ?_⟩
  exact below_row B1.out _

theorem Arr.congr {w : World} {g : Nat} {m m' : Nat → Bool} (h : Arr w g m) (e : ∀ i, i < 256 → m i = m' i) : Arr w g m' := by unfold Arr at *; rw [h, arrC_congr e]
theorem six_step {c k j : Nat} {b : Bool} (hb : b = sixM c k) : (if j = k then b else sixTo c k j) = sixTo c (k + 1) j := by
  subst hb
  by_cases e : j = k
  · subst e; simp [sixTo]
  · rw [if_neg e]
    unfold sixTo
    congr 1
    rw [decide_eq_decide]; omega

/-! the six walks -/

set_option maxRecDepth 100000 in
set_option maxHeartbeats 2000000 in
theorem six_100 (c : Nat) (hc : c < 256) (e1 : ((c : Int) == 100) = true) (u : 97 ≤ c) (hk : ∀ k, sixIn c k = (decide (48 ≤ k) && decide (k ≤ 57))) (w : World) :
    Calls Try.prog 63 #[.int .u8 c] w fun e w' => e = .returned (.tuple #[.agg (arrC (sixM c)), .bool true]) ∧ Below w.heap.size w w' := by
  obtain ⟨W1, hW⟩ : ∃ W1, W1 = (w.alloc (.cells Try.zeroCells110 110)).alloc (.cells Try.zeroCells110 110) := ⟨_, rfl⟩
  have a1 : Arr W1 (w.heap.size + 1) (sixTo c 0) := by rw [hW]; have := Arr.new (w.alloc (.cells Try.zeroCells110 110)); exact Arr.congr (by simpa using this) (fun i _ => by simp [sixTo])
  have a0 : Arr W1 w.heap.size (fun _ => false) := by rw [hW]; exact (Arr.new w).below ((Below.refl (w.heap.size + 1) _).alloc (by simp) _) (by omega)
  have B1 := Lib.hid (show Below w.heap.size w W1 by rw [hW]; exact ((Below.refl _ _).alloc (Nat.le_refl _) _).alloc (by simp) _)
  have A0 := Lib.hid a0
  have A1 := Lib.hid a1
  have HW := Lib.hid hW
  have HK := Lib.hid hk
  have u' : (97 : Int) ≤ (c : Int) := by omega
  clear hW a0 a1 hk
  go_enter Try.func63, Try.ntmps63
  go_wp2
  rw [← HW.out]
  clear HW
  go_loopw [5] (fun i wr => ∃ k : Nat, k ≤ 256 ∧ i = .int .i64 k ∧ Hid (Arr wr (w.heap.size + 1) (sixTo c k)) ∧ Below (w.heap.size + 1) W1 wr) (fun i _ => 256 - (intOf i).toNat)
  case atStart => exact ⟨0, by omega, rfl, A1, Below.refl _ _⟩
  case round =>
    clear A1
    obtain ⟨k, hk, rfl, HA, hb⟩ := hrel
    by_cases hlt : k < 256
    · have q0 := HA.out.cell hlt
      have q1 := HA.out.froz k
      have k0 : (0 : Int) ≤ (k : Int) := by omega
      have k1 : (k : Int) < 256 := by omega
      have HB := Lib.hid hb
      clear hb
      by_cases a1 : 48 ≤ k <;> by_cases a2 : k ≤ 57
      all_goals
        go_wp2
        all_goals
          go_roundw
          case rel => exact ⟨k + 1, by omega, by go_num, Lib.hid ((HA.out.set k _).congr fun j _ => six_step (by unfold sixM; rw [HK.out]; first | (simp [a1, a2, u]; done) | (simp [a1, a2, u]; omega) | (simp [a1, a2, u]; rw [Bool.eq_iff_iff]; simp; omega))), HB.out.setCell (Nat.le_refl _) _⟩
          case measure => simp [intOf]; omega
    · obtain rfl : k = 256 := by omega
      obtain ⟨M, hM⟩ : ∃ M, M = sixM c := ⟨_, rfl⟩
      have A2 := Lib.hid (Arr.congr HA.out (m' := M) (fun i hi => by rw [hM]; simp [sixTo, hi]))
      have A3 := Lib.hid (A0.out.below hb (by omega))
      have B2 := Lib.hid (B1.out.trans (hb.mono (Nat.le_succ _)))
      have LS := Lib.hid (size_arr M)
      have OS := Lib.hid (show (arrC fun _ => false).size = (arrC M).size from by rw [arrC_size, arrC_size])
      have HM := Lib.hid hM
      clear hb HA A0 B1 hM
      go_wp2_with (first
        | (refine wpList_load_row rfl 110 _ rfl (w.heap.size + 1) rfl 110 (arrC M) (0, 0) _ A2.out und110 rfl LS.out ?_)
        | (refine wpList_store_row rfl 110 _ _ rfl w.heap.size (arrC M) rfl rfl 110 _ A3.out LS.out OS.out (arrC_one _) ?_))
      refine bodyPost_ret (v := .tuple #[.agg (arrC M), .bool true]) (results63 _ _ w.heap.size _ _ rfl rfl (A3.out.row _)) rfl ⟨by rw [HM.out], ?_⟩
      exact below_row B2.out _

set_option maxRecDepth 100000 in
set_option maxHeartbeats 2000000 in
theorem six_68 (c : Nat) (hc : c < 256) (e1 : ((c : Int) == 100) = false) (e2 : ((c : Int) == 68) = true) (u : ¬ 97 ≤ c) (hk : ∀ k, sixIn c k = (decide (48 ≤ k) && decide (k ≤ 57))) (w : World) :
    Calls Try.prog 63 #[.int .u8 c] w fun e w' => e = .returned (.tuple #[.agg (arrC (sixM c)), .bool true]) ∧ Below w.heap.size w w' := by
  obtain ⟨W1, hW⟩ : ∃ W1, W1 = (w.alloc (.cells Try.zeroCells110 110)).alloc (.cells Try.zeroCells110 110) := ⟨_, rfl⟩
  have a1 : Arr W1 (w.heap.size + 1) (sixTo c 0) := by rw [hW]; have := Arr.new (w.alloc (.cells Try.zeroCells110 110)); exact Arr.congr (by simpa using this) (fun i _ => by simp [sixTo])
  have a0 : Arr W1 w.heap.size (fun _ => false) := by rw [hW]; exact (Arr.new w).below ((Below.refl (w.heap.size + 1) _).alloc (by simp) _) (by omega)
  have B1 := Lib.hid (show Below w.heap.size w W1 by rw [hW]; exact ((Below.refl _ _).alloc (Nat.le_refl _) _).alloc (by simp) _)
  have A0 := Lib.hid a0
  have A1 := Lib.hid a1
  have HW := Lib.hid hW
  have HK := Lib.hid hk
  have u' : ¬ (97 : Int) ≤ (c : Int) := by omega
  clear hW a0 a1 hk
  go_enter Try.func63, Try.ntmps63
  go_wp2
  rw [← HW.out]
  clear HW
  go_loopw [5] (fun i wr => ∃ k : Nat, k ≤ 256 ∧ i = .int .i64 k ∧ Hid (Arr wr (w.heap.size + 1) (sixTo c k)) ∧ Below (w.heap.size + 1) W1 wr) (fun i _ => 256 - (intOf i).toNat)
  case atStart => exact ⟨0, by omega, rfl, A1, Below.refl _ _⟩
  case round =>
    clear A1
    obtain ⟨k, hk, rfl, HA, hb⟩ := hrel
    by_cases hlt : k < 256
    · have q0 := HA.out.cell hlt
      have q1 := HA.out.froz k
      have k0 : (0 : Int) ≤ (k : Int) := by omega
      have k1 : (k : Int) < 256 := by omega
      have HB := Lib.hid hb
      clear hb
      by_cases a1 : 48 ≤ k <;> by_cases a2 : k ≤ 57
      all_goals
        go_wp2
        all_goals
          go_roundw
          case rel => exact ⟨k + 1, by omega, by go_num, Lib.hid ((HA.out.set k _).congr fun j _ => six_step (by unfold sixM; rw [HK.out]; first | (simp [a1, a2, u]; done) | (simp [a1, a2, u]; omega) | (simp [a1, a2, u]; rw [Bool.eq_iff_iff]; simp; omega))), HB.out.setCell (Nat.le_refl _) _⟩
          case measure => simp [intOf]; omega
    · obtain rfl : k = 256 := by omega
      obtain ⟨M, hM⟩ : ∃ M, M = sixM c := ⟨_, rfl⟩
      have A2 := Lib.hid (Arr.congr HA.out (m' := M) (fun i hi => by rw [hM]; simp [sixTo, hi]))
      have A3 := Lib.hid (A0.out.below hb (by omega))
      have B2 := Lib.hid (B1.out.trans (hb.mono (Nat.le_succ _)))
      have LS := Lib.hid (size_arr M)
      have OS := Lib.hid (show (arrC fun _ => false).size = (arrC M).size from by rw [arrC_size, arrC_size])
      have HM := Lib.hid hM
      clear hb HA A0 B1 hM
      go_wp2_with (first
        | (refine wpList_load_row rfl 110 _ rfl (w.heap.size + 1) rfl 110 (arrC M) (0, 0) _ A2.out und110 rfl LS.out ?_)
        | (refine wpList_store_row rfl 110 _ _ rfl w.heap.size (arrC M) rfl rfl 110 _ A3.out LS.out OS.out (arrC_one _) ?_))
      refine bodyPost_ret (v := .tuple #[.agg (arrC M), .bool true]) (results63 _ _ w.heap.size _ _ rfl rfl (A3.out.row _)) rfl ⟨by rw [HM.out], ?_⟩
      exact below_row B2.out _

set_option maxRecDepth 100000 in
set_option maxHeartbeats 2000000 in
theorem six_119 (c : Nat) (hc : c < 256) (e1 : ((c : Int) == 100) = false) (e2 : ((c : Int) == 68) = false) (e3 : ((c : Int) == 119) = true) (u : 97 ≤ c) (hk : ∀ k, sixIn c k = (wordB k || k == 95)) (w : World) :
    Calls Try.prog 63 #[.int .u8 c] w fun e w' => e = .returned (.tuple #[.agg (arrC (sixM c)), .bool true]) ∧ Below w.heap.size w w' := by
  obtain ⟨W1, hW⟩ : ∃ W1, W1 = (w.alloc (.cells Try.zeroCells110 110)).alloc (.cells Try.zeroCells110 110) := ⟨_, rfl⟩
  have a1 : Arr W1 (w.heap.size + 1) (sixTo c 0) := by rw [hW]; have := Arr.new (w.alloc (.cells Try.zeroCells110 110)); exact Arr.congr (by simpa using this) (fun i _ => by simp [sixTo])
  have a0 : Arr W1 w.heap.size (fun _ => false) := by rw [hW]; exact (Arr.new w).below ((Below.refl (w.heap.size + 1) _).alloc (by simp) _) (by omega)
  have B1 := Lib.hid (show Below w.heap.size w W1 by rw [hW]; exact ((Below.refl _ _).alloc (Nat.le_refl _) _).alloc (by simp) _)
  have A0 := Lib.hid a0
  have A1 := Lib.hid a1
  have HW := Lib.hid hW
  have HK := Lib.hid hk
  have u' : (97 : Int) ≤ (c : Int) := by omega
  clear hW a0 a1 hk
  go_enter Try.func63, Try.ntmps63
  go_wp2
  rw [← HW.out]
  clear HW
  go_loopw [5] (fun i wr => ∃ k : Nat, k ≤ 256 ∧ i = .int .i64 k ∧ Hid (Arr wr (w.heap.size + 1) (sixTo c k)) ∧ Below (w.heap.size + 1) W1 wr) (fun i _ => 256 - (intOf i).toNat)
  case atStart => exact ⟨0, by omega, rfl, A1, Below.refl _ _⟩
  case round =>
    clear A1
    obtain ⟨k, hk, rfl, HA, hb⟩ := hrel
    by_cases hlt : k < 256
    · have q0 := HA.out.cell hlt
      have q1 := HA.out.froz k
      have k0 : (0 : Int) ≤ (k : Int) := by omega
      have k1 : (k : Int) < 256 := by omega
      have HB := Lib.hid hb
      clear hb
      have WD := fun W => word_any k hlt W
      have HWD := Lib.hid WD
      clear WD
      by_cases a1 : wordB k = true
      · rw [a1] at HWD
        have H1 := Lib.hid a1
        have H3 : Hid True := Lib.hid trivial
        clear a1
        go_wp2_with fail
        refine (HWD.out _).mono ?_
        rintro e wx ⟨rfl, rfl⟩
        go_wp2
        all_goals
          go_roundw
          case rel => exact ⟨k + 1, by omega, by go_num, Lib.hid ((HA.out.set k _).congr fun j _ => six_step (by have h1 := H1.out; have h3 := H3.out; unfold sixM; rw [HK.out]; first | (simp [h1, h3, u]; done) | (simp [h1, h3, u]; omega) | (simp [h1, h3, u]; rw [Bool.eq_iff_iff]; simp; omega))), HB.out.setCell (Nat.le_refl _) _⟩
          case measure => simp [intOf]; omega
      · have a1' : wordB k = false := by simpa using a1
        rw [a1'] at HWD
        have H1 := Lib.hid a1'
        clear a1 a1'
        by_cases a2 : k = 95
        · have a3 : ((k : Int) == 95) = true := by simp; omega
          have H3 := Lib.hid a2
          clear a2
          go_wp2_with fail
          refine (HWD.out _).mono ?_
          rintro e wx ⟨rfl, rfl⟩
          go_wp2
          all_goals
            go_roundw
            case rel => exact ⟨k + 1, by omega, by go_num, Lib.hid ((HA.out.set k _).congr fun j _ => six_step (by have h1 := H1.out; have h3 := H3.out; unfold sixM; rw [HK.out]; first | (simp [h1, h3, u]; done) | (simp [h1, h3, u]; omega) | (simp [h1, h3, u]; rw [Bool.eq_iff_iff]; simp; omega))), HB.out.setCell (Nat.le_refl _) _⟩
            case measure => simp [intOf]; omega
        · have a3 : ((k : Int) == 95) = false := by simp; omega
          have H3 := Lib.hid a2
          clear a2
          go_wp2_with fail
          refine (HWD.out _).mono ?_
          rintro e wx ⟨rfl, rfl⟩
          go_wp2
          all_goals
            go_roundw
            case rel => exact ⟨k + 1, by omega, by go_num, Lib.hid ((HA.out.set k _).congr fun j _ => six_step (by have h1 := H1.out; have h3 := H3.out; unfold sixM; rw [HK.out]; first | (simp [h1, h3, u]; done) | (simp [h1, h3, u]; omega) | (simp [h1, h3, u]; rw [Bool.eq_iff_iff]; simp; omega))), HB.out.setCell (Nat.le_refl _) _⟩
            case measure => simp [intOf]; omega
    · obtain rfl : k = 256 := by omega
      obtain ⟨M, hM⟩ : ∃ M, M = sixM c := ⟨_, rfl⟩
      have A2 := Lib.hid (Arr.congr HA.out (m' := M) (fun i hi => by rw [hM]; simp [sixTo, hi]))
      have A3 := Lib.hid (A0.out.below hb (by omega))
      have B2 := Lib.hid (B1.out.trans (hb.mono (Nat.le_succ _)))
      have LS := Lib.hid (size_arr M)
      have OS := Lib.hid (show (arrC fun _ => false).size = (arrC M).size from by rw [arrC_size, arrC_size])
      have HM := Lib.hid hM
      clear hb HA A0 B1 hM
      go_wp2_with (first
        | (refine wpList_load_row rfl 110 _ rfl (w.heap.size + 1) rfl 110 (arrC M) (0, 0) _ A2.out und110 rfl LS.out ?_)
        | (refine wpList_store_row rfl 110 _ _ rfl w.heap.size (arrC M) rfl rfl 110 _ A3.out LS.out OS.out (arrC_one _) ?_))
      refine bodyPost_ret (v := .tuple #[.agg (arrC M), .bool true]) (results63 _ _ w.heap.size _ _ rfl rfl (A3.out.row _)) rfl ⟨by rw [HM.out], ?_⟩
      exact below_row B2.out _

set_option maxRecDepth 100000 in
set_option maxHeartbeats 2000000 in
theorem six_87 (c : Nat) (hc : c < 256) (e1 : ((c : Int) == 100) = false) (e2 : ((c : Int) == 68) = false) (e3 : ((c : Int) == 119) = false) (e4 : ((c : Int) == 87) = true) (u : ¬ 97 ≤ c) (hk : ∀ k, sixIn c k = (wordB k || k == 95)) (w : World) :
    Calls Try.prog 63 #[.int .u8 c] w fun e w' => e = .returned (.tuple #[.agg (arrC (sixM c)), .bool true]) ∧ Below w.heap.size w w' := by
  obtain ⟨W1, hW⟩ : ∃ W1, W1 = (w.alloc (.cells Try.zeroCells110 110)).alloc (.cells Try.zeroCells110 110) := ⟨_, rfl⟩
  have a1 : Arr W1 (w.heap.size + 1) (sixTo c 0) := by rw [hW]; have := Arr.new (w.alloc (.cells Try.zeroCells110 110)); exact Arr.congr (by simpa using this) (fun i _ => by simp [sixTo])
  have a0 : Arr W1 w.heap.size (fun _ => false) := by rw [hW]; exact (Arr.new w).below ((Below.refl (w.heap.size + 1) _).alloc (by simp) _) (by omega)
  have B1 := Lib.hid (show Below w.heap.size w W1 by rw [hW]; exact ((Below.refl _ _).alloc (Nat.le_refl _) _).alloc (by simp) _)
  have A0 := Lib.hid a0
  have A1 := Lib.hid a1
  have HW := Lib.hid hW
  have HK := Lib.hid hk
  have u' : ¬ (97 : Int) ≤ (c : Int) := by omega
  clear hW a0 a1 hk
  go_enter Try.func63, Try.ntmps63
  go_wp2
  rw [← HW.out]
  clear HW
  go_loopw [5] (fun i wr => ∃ k : Nat, k ≤ 256 ∧ i = .int .i64 k ∧ Hid (Arr wr (w.heap.size + 1) (sixTo c k)) ∧ Below (w.heap.size + 1) W1 wr) (fun i _ => 256 - (intOf i).toNat)
  case atStart => exact ⟨0, by omega, rfl, A1, Below.refl _ _⟩
  case round =>
    clear A1
    obtain ⟨k, hk, rfl, HA, hb⟩ := hrel
    by_cases hlt : k < 256
    · have q0 := HA.out.cell hlt
      have q1 := HA.out.froz k
      have k0 : (0 : Int) ≤ (k : Int) := by omega
      have k1 : (k : Int) < 256 := by omega
      have HB := Lib.hid hb
      clear hb
      have WD := fun W => word_any k hlt W
      have HWD := Lib.hid WD
      clear WD
      by_cases a1 : wordB k = true
      · rw [a1] at HWD
        have H1 := Lib.hid a1
        have H3 : Hid True := Lib.hid trivial
        clear a1
        go_wp2_with fail
        refine (HWD.out _).mono ?_
        rintro e wx ⟨rfl, rfl⟩
        go_wp2
        all_goals
          go_roundw
          case rel => exact ⟨k + 1, by omega, by go_num, Lib.hid ((HA.out.set k _).congr fun j _ => six_step (by have h1 := H1.out; have h3 := H3.out; unfold sixM; rw [HK.out]; first | (simp [h1, h3, u]; done) | (simp [h1, h3, u]; omega) | (simp [h1, h3, u]; rw [Bool.eq_iff_iff]; simp; omega))), HB.out.setCell (Nat.le_refl _) _⟩
          case measure => simp [intOf]; omega
      · have a1' : wordB k = false := by simpa using a1
        rw [a1'] at HWD
        have H1 := Lib.hid a1'
        clear a1 a1'
        by_cases a2 : k = 95
        · have a3 : ((k : Int) == 95) = true := by simp; omega
          have H3 := Lib.hid a2
          clear a2
          go_wp2_with fail
          refine (HWD.out _).mono ?_
          rintro e wx ⟨rfl, rfl⟩
          go_wp2
          all_goals
            go_roundw
            case rel => exact ⟨k + 1, by omega, by go_num, Lib.hid ((HA.out.set k _).congr fun j _ => six_step (by have h1 := H1.out; have h3 := H3.out; unfold sixM; rw [HK.out]; first | (simp [h1, h3, u]; done) | (simp [h1, h3, u]; omega) | (simp [h1, h3, u]; rw [Bool.eq_iff_iff]; simp; omega))), HB.out.setCell (Nat.le_refl _) _⟩
            case measure => simp [intOf]; omega
        · have a3 : ((k : Int) == 95) = false := by simp; omega
          have H3 := Lib.hid a2
          clear a2
          go_wp2_with fail
          refine (HWD.out _).mono ?_
          rintro e wx ⟨rfl, rfl⟩
          go_wp2
          all_goals
            go_roundw
            case rel => exact ⟨k + 1, by omega, by go_num, Lib.hid ((HA.out.set k _).congr fun j _ => six_step (by have h1 := H1.out; have h3 := H3.out; unfold sixM; rw [HK.out]; first | (simp [h1, h3, u]; done) | (simp [h1, h3, u]; omega) | (simp [h1, h3, u]; rw [Bool.eq_iff_iff]; simp; omega))), HB.out.setCell (Nat.le_refl _) _⟩
            case measure => simp [intOf]; omega
    · obtain rfl : k = 256 := by omega
      obtain ⟨M, hM⟩ : ∃ M, M = sixM c := ⟨_, rfl⟩
      have A2 := Lib.hid (Arr.congr HA.out (m' := M) (fun i hi => by rw [hM]; simp [sixTo, hi]))
      have A3 := Lib.hid (A0.out.below hb (by omega))
      have B2 := Lib.hid (B1.out.trans (hb.mono (Nat.le_succ _)))
      have LS := Lib.hid (size_arr M)
      have OS := Lib.hid (show (arrC fun _ => false).size = (arrC M).size from by rw [arrC_size, arrC_size])
      have HM := Lib.hid hM
      clear hb HA A0 B1 hM
      go_wp2_with (first
        | (refine wpList_load_row rfl 110 _ rfl (w.heap.size + 1) rfl 110 (arrC M) (0, 0) _ A2.out und110 rfl LS.out ?_)
        | (refine wpList_store_row rfl 110 _ _ rfl w.heap.size (arrC M) rfl rfl 110 _ A3.out LS.out OS.out (arrC_one _) ?_))
      refine bodyPost_ret (v := .tuple #[.agg (arrC M), .bool true]) (results63 _ _ w.heap.size _ _ rfl rfl (A3.out.row _)) rfl ⟨by rw [HM.out], ?_⟩
      exact below_row B2.out _

set_option maxRecDepth 100000 in
set_option maxHeartbeats 2000000 in
theorem six_115 (c : Nat) (hc : c < 256) (e1 : ((c : Int) == 100) = false) (e2 : ((c : Int) == 68) = false) (e3 : ((c : Int) == 119) = false) (e4 : ((c : Int) == 87) = false) (e5 : ((c : Int) == 115) = true) (u : 97 ≤ c) (hk : ∀ k, sixIn c k = ((decide (9 ≤ k) && decide (k ≤ 13)) || k == 32)) (w : World) :
    Calls Try.prog 63 #[.int .u8 c] w fun e w' => e = .returned (.tuple #[.agg (arrC (sixM c)), .bool true]) ∧ Below w.heap.size w w' := by
  obtain ⟨W1, hW⟩ : ∃ W1, W1 = (w.alloc (.cells Try.zeroCells110 110)).alloc (.cells Try.zeroCells110 110) := ⟨_, rfl⟩
  have a1 : Arr W1 (w.heap.size + 1) (sixTo c 0) := by rw [hW]; have := Arr.new (w.alloc (.cells Try.zeroCells110 110)); exact Arr.congr (by simpa using this) (fun i _ => by simp [sixTo])
  have a0 : Arr W1 w.heap.size (fun _ => false) := by rw [hW]; exact (Arr.new w).below ((Below.refl (w.heap.size + 1) _).alloc (by simp) _) (by omega)
  have B1 := Lib.hid (show Below w.heap.size w W1 by rw [hW]; exact ((Below.refl _ _).alloc (Nat.le_refl _) _).alloc (by simp) _)
  have A0 := Lib.hid a0
  have A1 := Lib.hid a1
  have HW := Lib.hid hW
  have HK := Lib.hid hk
  have u' : (97 : Int) ≤ (c : Int) := by omega
  clear hW a0 a1 hk
  go_enter Try.func63, Try.ntmps63
  go_wp2
  rw [← HW.out]
  clear HW
  go_loopw [5] (fun i wr => ∃ k : Nat, k ≤ 256 ∧ i = .int .i64 k ∧ Hid (Arr wr (w.heap.size + 1) (sixTo c k)) ∧ Below (w.heap.size + 1) W1 wr) (fun i _ => 256 - (intOf i).toNat)
  case atStart => exact ⟨0, by omega, rfl, A1, Below.refl _ _⟩
  case round =>
    clear A1
    obtain ⟨k, hk, rfl, HA, hb⟩ := hrel
    by_cases hlt : k < 256
    · have q0 := HA.out.cell hlt
      have q1 := HA.out.froz k
      have k0 : (0 : Int) ≤ (k : Int) := by omega
      have k1 : (k : Int) < 256 := by omega
      have HB := Lib.hid hb
      clear hb
      by_cases a3 : k = 32
      · have a1 : 9 ≤ k := by omega
        have a2 : ¬ k ≤ 13 := by omega
        have b3 : ((k : Int) == 32) = true := by simp; omega
        have H3 := Lib.hid a3
        have H1 : Hid True := Lib.hid trivial
        clear a3
        go_wp2
        all_goals
          go_roundw
          case rel => exact ⟨k + 1, by omega, by go_num, Lib.hid ((HA.out.set k _).congr fun j _ => six_step (by have h1 := H1.out; have h3 := H3.out; unfold sixM; rw [HK.out]; first | (simp [a1, a2, h1, h3, u]; done) | (simp [a1, a2, h1, h3, u]; omega) | (simp [a1, a2, h1, h3, u]; rw [Bool.eq_iff_iff]; simp; omega))), HB.out.setCell (Nat.le_refl _) _⟩
          case measure => simp [intOf]; omega
      · have b3 : ((k : Int) == 32) = false := by simp; omega
        have H3 := Lib.hid a3
        have H1 : Hid True := Lib.hid trivial
        clear a3
        by_cases a1 : 9 ≤ k
        · by_cases a2 : k ≤ 13
          · go_wp2
            all_goals
              go_roundw
              case rel => exact ⟨k + 1, by omega, by go_num, Lib.hid ((HA.out.set k _).congr fun j _ => six_step (by have h1 := H1.out; have h3 := H3.out; unfold sixM; rw [HK.out]; first | (simp [a1, a2, h1, h3, u]; done) | (simp [a1, a2, h1, h3, u]; omega) | (simp [a1, a2, h1, h3, u]; rw [Bool.eq_iff_iff]; simp; omega))), HB.out.setCell (Nat.le_refl _) _⟩
              case measure => simp [intOf]; omega
          · go_wp2
            all_goals
              go_roundw
              case rel => exact ⟨k + 1, by omega, by go_num, Lib.hid ((HA.out.set k _).congr fun j _ => six_step (by have h1 := H1.out; have h3 := H3.out; unfold sixM; rw [HK.out]; first | (simp [a1, a2, h1, h3, u]; done) | (simp [a1, a2, h1, h3, u]; omega) | (simp [a1, a2, h1, h3, u]; rw [Bool.eq_iff_iff]; simp; omega))), HB.out.setCell (Nat.le_refl _) _⟩
              case measure => simp [intOf]; omega
        · have a2 : k ≤ 13 := by omega
          go_wp2
          all_goals
            go_roundw
            case rel => exact ⟨k + 1, by omega, by go_num, Lib.hid ((HA.out.set k _).congr fun j _ => six_step (by have h1 := H1.out; have h3 := H3.out; unfold sixM; rw [HK.out]; first | (simp [a1, a2, h1, h3, u]; done) | (simp [a1, a2, h1, h3, u]; omega) | (simp [a1, a2, h1, h3, u]; rw [Bool.eq_iff_iff]; simp; omega))), HB.out.setCell (Nat.le_refl _) _⟩
            case measure => simp [intOf]; omega
    · obtain rfl : k = 256 := by omega
      obtain ⟨M, hM⟩ : ∃ M, M = sixM c := ⟨_, rfl⟩
      have A2 := Lib.hid (Arr.congr HA.out (m' := M) (fun i hi => by rw [hM]; simp [sixTo, hi]))
      have A3 := Lib.hid (A0.out.below hb (by omega))
      have B2 := Lib.hid (B1.out.trans (hb.mono (Nat.le_succ _)))
      have LS := Lib.hid (size_arr M)
      have OS := Lib.hid (show (arrC fun _ => false).size = (arrC M).size from by rw [arrC_size, arrC_size])
      have HM := Lib.hid hM
      clear hb HA A0 B1 hM
      go_wp2_with (first
        | (refine wpList_load_row rfl 110 _ rfl (w.heap.size + 1) rfl 110 (arrC M) (0, 0) _ A2.out und110 rfl LS.out ?_)
        | (refine wpList_store_row rfl 110 _ _ rfl w.heap.size (arrC M) rfl rfl 110 _ A3.out LS.out OS.out (arrC_one _) ?_))
      refine bodyPost_ret (v := .tuple #[.agg (arrC M), .bool true]) (results63 _ _ w.heap.size _ _ rfl rfl (A3.out.row _)) rfl ⟨by rw [HM.out], ?_⟩
      exact below_row B2.out _

set_option maxRecDepth 100000 in
set_option maxHeartbeats 2000000 in
theorem six_83 (c : Nat) (hc : c < 256) (e1 : ((c : Int) == 100) = false) (e2 : ((c : Int) == 68) = false) (e3 : ((c : Int) == 119) = false) (e4 : ((c : Int) == 87) = false) (e5 : ((c : Int) == 115) = false) (e6 : ((c : Int) == 83) = true) (u : ¬ 97 ≤ c) (hk : ∀ k, sixIn c k = ((decide (9 ≤ k) && decide (k ≤ 13)) || k == 32)) (w : World) :
    Calls Try.prog 63 #[.int .u8 c] w fun e w' => e = .returned (.tuple #[.agg (arrC (sixM c)), .bool true]) ∧ Below w.heap.size w w' := by
  obtain ⟨W1, hW⟩ : ∃ W1, W1 = (w.alloc (.cells Try.zeroCells110 110)).alloc (.cells Try.zeroCells110 110) := ⟨_, rfl⟩
  have a1 : Arr W1 (w.heap.size + 1) (sixTo c 0) := by rw [hW]; have := Arr.new (w.alloc (.cells Try.zeroCells110 110)); exact Arr.congr (by simpa using this) (fun i _ => by simp [sixTo])
  have a0 : Arr W1 w.heap.size (fun _ => false) := by rw [hW]; exact (Arr.new w).below ((Below.refl (w.heap.size + 1) _).alloc (by simp) _) (by omega)
  have B1 := Lib.hid (show Below w.heap.size w W1 by rw [hW]; exact ((Below.refl _ _).alloc (Nat.le_refl _) _).alloc (by simp) _)
  have A0 := Lib.hid a0
  have A1 := Lib.hid a1
  have HW := Lib.hid hW
  have HK := Lib.hid hk
  have u' : ¬ (97 : Int) ≤ (c : Int) := by omega
  clear hW a0 a1 hk
  go_enter Try.func63, Try.ntmps63
  go_wp2
  rw [← HW.out]
  clear HW
  go_loopw [5] (fun i wr => ∃ k : Nat, k ≤ 256 ∧ i = .int .i64 k ∧ Hid (Arr wr (w.heap.size + 1) (sixTo c k)) ∧ Below (w.heap.size + 1) W1 wr) (fun i _ => 256 - (intOf i).toNat)
  case atStart => exact ⟨0, by omega, rfl, A1, Below.refl _ _⟩
  case round =>
    clear A1
    obtain ⟨k, hk, rfl, HA, hb⟩ := hrel
    by_cases hlt : k < 256
    · have q0 := HA.out.cell hlt
      have q1 := HA.out.froz k
      have k0 : (0 : Int) ≤ (k : Int) := by omega
      have k1 : (k : Int) < 256 := by omega
      have HB := Lib.hid hb
      clear hb
      by_cases a3 : k = 32
      · have a1 : 9 ≤ k := by omega
        have a2 : ¬ k ≤ 13 := by omega
        have b3 : ((k : Int) == 32) = true := by simp; omega
        have H3 := Lib.hid a3
        have H1 : Hid True := Lib.hid trivial
        clear a3
        go_wp2
        all_goals
          go_roundw
          case rel => exact ⟨k + 1, by omega, by go_num, Lib.hid ((HA.out.set k _).congr fun j _ => six_step (by have h1 := H1.out; have h3 := H3.out; unfold sixM; rw [HK.out]; first | (simp [a1, a2, h1, h3, u]; done) | (simp [a1, a2, h1, h3, u]; omega) | (simp [a1, a2, h1, h3, u]; rw [Bool.eq_iff_iff]; simp; omega))), HB.out.setCell (Nat.le_refl _) _⟩
          case measure => simp [intOf]; omega
      · have b3 : ((k : Int) == 32) = false := by simp; omega
        have H3 := Lib.hid a3
        have H1 : Hid True := Lib.hid trivial
        clear a3
        by_cases a1 : 9 ≤ k
        · by_cases a2 : k ≤ 13
          · go_wp2
            all_goals
              go_roundw
              case rel => exact ⟨k + 1, by omega, by go_num, Lib.hid ((HA.out.set k _).congr fun j _ => six_step (by have h1 := H1.out; have h3 := H3.out; unfold sixM; rw [HK.out]; first | (simp [a1, a2, h1, h3, u]; done) | (simp [a1, a2, h1, h3, u]; omega) | (simp [a1, a2, h1, h3, u]; rw [Bool.eq_iff_iff]; simp; omega))), HB.out.setCell (Nat.le_refl _) _⟩
              case measure => simp [intOf]; omega
          · go_wp2
            all_goals
              go_roundw
              case rel => exact ⟨k + 1, by omega, by go_num, Lib.hid ((HA.out.set k _).congr fun j _ => six_step (by have h1 := H1.out; have h3 := H3.out; unfold sixM; rw [HK.out]; first | (simp [a1, a2, h1, h3, u]; done) | (simp [a1, a2, h1, h3, u]; omega) | (simp [a1, a2, h1, h3, u]; rw [Bool.eq_iff_iff]; simp; omega))), HB.out.setCell (Nat.le_refl _) _⟩
              case measure => simp [intOf]; omega
        · have a2 : k ≤ 13 := by omega
          go_wp2
          all_goals
            go_roundw
            case rel => exact ⟨k + 1, by omega, by go_num, Lib.hid ((HA.out.set k _).congr fun j _ => six_step (by have h1 := H1.out; have h3 := H3.out; unfold sixM; rw [HK.out]; first | (simp [a1, a2, h1, h3, u]; done) | (simp [a1, a2, h1, h3, u]; omega) | (simp [a1, a2, h1, h3, u]; rw [Bool.eq_iff_iff]; simp; omega))), HB.out.setCell (Nat.le_refl _) _⟩
            case measure => simp [intOf]; omega
    · obtain rfl : k = 256 := by omega
      obtain ⟨M, hM⟩ : ∃ M, M = sixM c := ⟨_, rfl⟩
      have A2 := Lib.hid (Arr.congr HA.out (m' := M) (fun i hi => by rw [hM]; simp [sixTo, hi]))
      have A3 := Lib.hid (A0.out.below hb (by omega))
      have B2 := Lib.hid (B1.out.trans (hb.mono (Nat.le_succ _)))
      have LS := Lib.hid (size_arr M)
      have OS := Lib.hid (show (arrC fun _ => false).size = (arrC M).size from by rw [arrC_size, arrC_size])
      have HM := Lib.hid hM
      clear hb HA A0 B1 hM
      go_wp2_with (first
        | (refine wpList_load_row rfl 110 _ rfl (w.heap.size + 1) rfl 110 (arrC M) (0, 0) _ A2.out und110 rfl LS.out ?_)
        | (refine wpList_store_row rfl 110 _ _ rfl w.heap.size (arrC M) rfl rfl 110 _ A3.out LS.out OS.out (arrC_one _) ?_))
      refine bodyPost_ret (v := .tuple #[.agg (arrC M), .bool true]) (results63 _ _ w.heap.size _ _ rfl rfl (A3.out.row _)) rfl ⟨by rw [HM.out], ?_⟩
      exact below_row B2.out _

theorem six_yes (c : Nat) (hc : c < 256) (h : sixOk c = true) (w : World) : Calls Try.prog 63 #[.int .u8 c] w fun e w' => e = .returned (.tuple #[.agg (arrC (sixM c)), .bool true]) ∧ Below w.heap.size w w' := by
  have hh : c = 100 ∨ c = 68 ∨ c = 119 ∨ c = 87 ∨ c = 115 ∨ c = 83 := by
    simp [sixOk, isD, isW, isS] at h; omega
  rcases hh with rfl | rfl | rfl | rfl | rfl | rfl
  · exact six_100 100 hc rfl (by omega) (fun k => rfl) w
  · exact six_68 68 hc rfl rfl (by omega) (fun k => rfl) w
  · exact six_119 119 hc rfl rfl rfl (by omega) (fun k => rfl) w
  · exact six_87 87 hc rfl rfl rfl rfl (by omega) (fun k => rfl) w
  · exact six_115 115 hc rfl rfl rfl rfl rfl (by omega) (fun k => rfl) w
  · exact six_83 83 hc rfl rfl rfl rfl rfl rfl (by omega) (fun k => rfl) w
end Go.Proofs.Ytldcbkememonaaa
