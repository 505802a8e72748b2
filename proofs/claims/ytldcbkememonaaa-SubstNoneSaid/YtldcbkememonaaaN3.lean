/-
  The walk of set at a stroke.
-/
import Derived.Test.YtldcbkememonaaaPm

namespace Go.Proofs.Ytldcbkememonaaa
open Go.RowKit
set_option linter.unusedVariables false
set_option linter.unusedSimpArgs false

theorem Moved.two {B r q q2 : Nat} {s : ByteArray} {st : RS} {v : Value} {w w1 w2 : World} (h : Moved B r s st v q w w1) (k : Moved B r s { st with at_ := q } v q2 w1 w2) : Moved B r s st v q2 w w2 :=
  ⟨k.1, h.2.trans k.2 (fun g hg => by cases hg)⟩
theorem Arr.fr {w w' : World} {g r : Nat} {m : Nat → Bool} (h : Arr w g m) (f : Fr r nilV w w') (hne : g ≠ r) : Arr w' g m := (f.block g h.lt hne (by simp [nilV, Value.ownBlock])).trans h
set_option maxRecDepth 100000 in
set_option maxHeartbeats 4000000 in
theorem set_stroke (B r : Nat) (s : ByteArray) (st : RS) (v : Value) (w : World) (h : RA B r s st v w) (hp : st.at_ < s.size) (hs : s.size ≤ 10000) (hc : by_ s st.at_ = 92) :
    Calls Try.prog 56 #[.pointer (some ⟨r, 0, none⟩)] w (SetPost B r s st v (setF s st.at_) w) := by
  obtain ⟨W1, hW⟩ : ∃ W1, W1 = (w.alloc (.cells Try.zeroCells110 110)).alloc (.cells Try.zeroCells110 110) := ⟨_, rfl⟩
  have a0 : Arr W1 w.heap.size (fun _ => false) := by rw [hW]; exact (Arr.new w).below ((Below.refl (w.heap.size + 1) _).alloc (by simp) _) (by omega)
  have a1 : Arr W1 (w.heap.size + 1) (fun _ => false) := by rw [hW]; have := Arr.new (w.alloc (.cells Try.zeroCells110 110)); simpa using this
  have g1 : Grow w W1 := by rw [hW]; exact ((Grow.refl w).alloc _).alloc _
  have zW : W1.heap.size = w.heap.size + 2 := by rw [hW]; simp
  have h1 := h.grow g1
  have c0 := h1.c0
  have c1 := h1.c1
  have hr := h.lt
  have HV := Lib.hid (show ∀ g, v.ownBlock = some g → g < w.heap.size from fun g hg => (h.own.lt g hg).2)
  have H := Lib.hid h
  have A0 := Lib.hid a0
  have A1 := Lib.hid a1
  have G1 := Lib.hid g1
  have HW := Lib.hid hW
  have ZW := Lib.hid zW
  obtain ⟨p, hpp⟩ : ∃ p, p = st.at_ := ⟨_, rfl⟩
  rw [← hpp] at c1 hp hc ⊢
  have HP := Lib.hid hpp
  have hS : setF s p = match strokeF s p with
      | (none, q) => (none, q)
      | (some it, q) => (some (match it.six with | some d => sixM d | none => fun i => i == it.a), q) := by
    unfold setF
    simp only [hc]
    rfl
  obtain ⟨SR, hSR⟩ : ∃ SR, SR = setF s p := ⟨_, rfl⟩
  rw [← hSR]
  rw [hS] at hSR
  have k1 : (p : Int) < (s.size : Int) := by omega
  have k0 : (0 : Int) ≤ (p : Int) := by omega
  have k2 : (p : Int) ≤ 10000 := by omega
  obtain ⟨c, hcc⟩ : ∃ c, c = by_ s p := ⟨_, rfl⟩
  have hcs : s[p].toNat = c := by rw [hcc, by_at s p hp]
  rw [← hcc] at hc
  have t1 : ((c : Int) == 46) = false := by simp; omega
  have t2 : ((c : Int) == 91) = false := by simp; omega
  have t3 : ((c : Int) == 92) = true := by simp; omega
  have HC3 := Lib.hid hc
  clear hW a0 a1 g1 h1 h hpp hcc hc hS zW
  obtain ⟨res, hres⟩ : ∃ res, res = strokeF s p := ⟨_, rfl⟩
  rw [← hres] at hSR
  have HRES := Lib.hid hres
  have HSR := Lib.hid hSR
  clear hres hSR
  go_enter Try.func56, Try.ntmps56
  go_wp2
  rw [← HW.out]
  go_quiet (fail)
  obtain ⟨W5, hW5⟩ : ∃ W5, W5 = W1.drewN nq := ⟨_, rfl⟩
  have b1 : Arr W5 (w.heap.size + 1) (fun _ => false) := by rw [hW5]; exact A1.out.below (below_drewN (Below.refl (w.heap.size + 2) W1) nq) (by omega)
  have b0 : Arr W5 w.heap.size (fun _ => false) := by rw [hW5]; exact A0.out.below (below_drewN (Below.refl (w.heap.size + 2) W1) nq) (by omega)
  have g5 : Grow w W5 := by rw [hW5]; exact below_drewN G1.out nq
  have z5 : w.heap.size + 2 ≤ W5.heap.size := by rw [hW5]; simp [ZW.out]
  have SK := stroke_any B r s st v W5 (H.out.grow g5) (by omega) (by rw [← HP.out]; omega)
  rw [← HP.out, ← HRES.out] at SK
  have SK := Lib.hid SK
  have M5 := Lib.hid (Moved.stay H.out g5)
  have B1 := Lib.hid b1
  have B0 := Lib.hid b0
  rw [← hW5]
  clear hW5 b1 b0 g5 c0 c1
  go_wp2_with fail
  refine SK.out.mono ?_
  rintro e w6 ⟨mv, a, m, ok, rfl, hm⟩
  have M6 := Lib.hid (M5.out.two mv)
  have E1 := Lib.hid (B1.out.fr mv.2 (by omega))
  have E0 := Lib.hid (B0.out.fr mv.2 (by omega))
  have z6 : w.heap.size + 2 ≤ w6.heap.size := Nat.le_trans z5 mv.2.size
  clear mv SK
  have SA := Lib.hid (size_arr m)
  have SZ := Lib.hid (size_arr (fun _ => false))
  have OS := Lib.hid (show (arrC fun _ => false).size = (arrC m).size from by rw [arrC_size, arrC_size])
  have AN := Lib.hid (Arr.new w6)
  have Z7 := Lib.hid (show Arr ((w6.alloc (.cells Try.zeroCells110 110)).setRow w6.heap.size (arrC m)) w6.heap.size m from (Arr.new w6).row m)
  have E17 := Lib.hid (show Arr ((w6.alloc (.cells Try.zeroCells110 110)).setRow w6.heap.size (arrC m)) (w.heap.size + 1) (fun _ => false) from (setRow_other _ _ _ _ (by omega)).trans ((Below.heap_alloc _ _ _ (by omega)).trans E1.out))
  have E07 := Lib.hid (show Arr ((w6.alloc (.cells Try.zeroCells110 110)).setRow w6.heap.size (arrC m)) w.heap.size (fun _ => false) from (setRow_other _ _ _ _ (by omega)).trans ((Below.heap_alloc _ _ _ (by omega)).trans E0.out))
  have M7 := Lib.hid ((M6.out.grow ((Grow.refl w6).alloc (.cells Try.zeroCells110 110))).own (fr_row (G := w6.heap.size) (m := m)) (by omega) hr HV.out)
  obtain ⟨res1, q⟩ := res
  cases res1 with
  | none =>
    have hok : ok = false := hm
    subst hok
    clear hm
    go_wp2_with (first | (refine wpList_store_row rfl 110 _ _ rfl w6.heap.size (arrC m) rfl rfl 110 (arrC fun _ => false) AN.out SA.out OS.out (arrC_one _) ?_) | (refine wpList_load_row rfl 110 _ rfl (w.heap.size + 1) rfl 110 (arrC fun _ => false) (0, 0) _ E17.out und110 rfl SZ.out ?_) | (refine wpList_store_row rfl 110 _ _ rfl w.heap.size (arrC fun _ => false) rfl rfl 110 (arrC fun _ => false) E07.out SZ.out rfl (arrC_one _) ?_))
    have M8 := M7.out.own (fr_row (G := w.heap.size) (m := fun _ => false)) (Nat.le_refl _) hr HV.out
    exact bodyPost_ret (v := .tuple #[.agg (arrC fun _ => false), .bool false]) (results56 _ _ w.heap.size _ _ rfl rfl (E07.out.row _)) rfl (by rw [HSR.out]; exact ⟨M8, _, false, rfl, rfl⟩)
  | some it =>
    obtain ⟨hqa, hqm, hqo⟩ := hm
    subst hqo
    obtain ⟨h6, ha, h60, hq⟩ := stroke_six_ok s p it q HRES.out.symm
    have EQ := eq_it it h6
    rw [← hqm] at EQ
    rw [← hqa] at ha
    have HQA := Lib.hid hqa
    have HQM := Lib.hid hqm
    clear hqa hqm h6 h60 hq
    cases hsix : it.six with
    | some d =>
      rw [hsix] at EQ
      have RE : ∀ w, (Op.equalIn 10000 110 (.agg (arrC m)) (.agg Try.zeroCells110)).run Try.prog w = .ok false w := fun w => by
        rw [run_eq110z, EQ]; rfl
      have HSX := Lib.hid hsix
      have GD := guard110
      clear hsix EQ
      go_wp2_with (first | (refine wpList_store_row rfl 110 _ _ rfl w6.heap.size (arrC m) rfl rfl 110 (arrC fun _ => false) AN.out SA.out OS.out (arrC_one _) ?_) | (refine wpList_load_row rfl 110 _ rfl w6.heap.size rfl 110 (arrC m) (0, 0) _ Z7.out und110 rfl SA.out ?_) | (refine wpList_store_row rfl 110 _ _ rfl w.heap.size (arrC m) rfl rfl 110 (arrC fun _ => false) E07.out SA.out OS.out (arrC_one _) ?_))
      have M8 := M7.out.own (fr_row (G := w.heap.size) (m := m)) (Nat.le_refl _) hr HV.out
      exact bodyPost_ret (v := .tuple #[.agg (arrC m), .bool true]) (results56 _ _ w.heap.size _ _ rfl rfl (E07.out.row _)) rfl (by
        rw [HSR.out]
        simp only [HSX.out]
        exact ⟨M8, _, true, rfl, by rw [HQM.out]; unfold itM; rw [HSX.out], rfl⟩)
    | none =>
      rw [hsix] at EQ
      have RE : ∀ w, (Op.equalIn 10000 110 (.agg (arrC m)) (.agg Try.zeroCells110)).run Try.prog w = .ok true w := fun w => by
        rw [run_eq110z, EQ]; rfl
      have HSX := Lib.hid hsix
      have GD := guard110
      have kc := E17.out.cell ha
      have kf := E17.out.froz a
      have kl := E17.out.lt
      have x0 : (0 : Int) ≤ (a : Int) := by omega
      have x1 : (a : Int) < 256 := by omega
      have F17 := Lib.hid ((E17.out.set a true).congr (m' := fun j => decide (j = a)) (fun i _ => by by_cases e : i = a <;> simp [e]))
      have F07 := Lib.hid (E07.out.far (r := w.heap.size + 1) (j := a) (x := .bool true) (by omega))
      have SB := Lib.hid (size_arr (fun j => decide (j = a)))
      have OB := Lib.hid (show (arrC fun _ => false).size = (arrC fun j => decide (j = a)).size from by rw [arrC_size, arrC_size])
      have M8 := Lib.hid (M7.out.own (fr_set (G := w.heap.size + 1) (j := a) (x := .bool true)) (by omega) hr HV.out)
      clear hsix EQ
      go_wp2_with (first | (refine wpList_store_row rfl 110 _ _ rfl w6.heap.size (arrC m) rfl rfl 110 (arrC fun _ => false) AN.out SA.out OS.out (arrC_one _) ?_) | (refine wpList_load_row rfl 110 _ rfl w6.heap.size rfl 110 (arrC m) (0, 0) _ Z7.out und110 rfl SA.out ?_) | (refine wpList_load_row rfl 110 _ rfl (w.heap.size + 1) rfl 110 (arrC fun j => decide (j = a)) (0, 0) _ F17.out und110 rfl SB.out ?_) | (refine wpList_store_row rfl 110 _ _ rfl w.heap.size (arrC fun j => decide (j = a)) rfl rfl 110 (arrC fun _ => false) F07.out SB.out OB.out (arrC_one _) ?_))
      have M9 := M8.out.own (fr_row (G := w.heap.size) (m := fun j => decide (j = a))) (Nat.le_refl _) hr HV.out
      exact bodyPost_ret (v := .tuple #[.agg (arrC fun j => decide (j = a)), .bool true]) (results56 _ _ w.heap.size _ _ rfl rfl (F07.out.row _)) rfl (by
        rw [HSR.out]
        simp only [HSX.out]
        exact ⟨M9, _, true, rfl, arrC_congr (fun i _ => by rw [HQA.out]; rfl), rfl⟩)
end Go.Proofs.Ytldcbkememonaaa
