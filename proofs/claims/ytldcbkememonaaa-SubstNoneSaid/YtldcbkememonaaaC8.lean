/-
  The walk of set, at a byte that stands for itself or may not stand.
-/
import Derived.Test.YtldcbkememonaaaC7

namespace Go.Proofs.Ytldcbkememonaaa
open Go.RowKit
set_option linter.unusedVariables false
set_option linter.unusedSimpArgs false

theorem results56 (tmps : Array Value) (w : World) (g : Nat) (m : Nat → Bool) (b : Bool) (h2 : tmps[2]? = some (.pointer (some ⟨g, 0, none⟩))) (h3 : tmps[3]? = some (.bool b)) (h : Arr w g m) :
    (results Try.f56 tmps).run Try.prog w = .ok (.tuple #[.agg (arrC m), .bool b]) w := by
  have e := run_loadVar_row (P := Try.prog) w g 110 110 (arrC m) (0, 0) _ h und110 rfl (by rw [arrC_size]; exact size110)
  simp [results, Try.results56, h2, h3, asAddr, e]
theorem Arr.far {w : World} {g r j : Nat} {m : Nat → Bool} {x : Value} (h : Arr w g m) (hne : g ≠ r) : Arr (w.setCell ⟨r, j, none⟩ x) g m := (heap_setCell_other _ _ _ _ hne).trans h
theorem fr_set {G j : Nat} {x : Value} {w : World} : Fr G nilV w (w.setCell ⟨G, j, none⟩ x) := ⟨rfl, rfl, rfl, by simp, fun k _ h1 _ => heap_setCell_other _ _ _ _ h1⟩
theorem fr_row {G : Nat} {m : Nat → Bool} {w : World} : Fr G nilV w (w.setRow G (arrC m)) := ⟨rfl, rfl, rfl, by simp, fun k _ h1 _ => setRow_other w G k _ h1⟩
set_option maxRecDepth 100000 in
set_option maxHeartbeats 2000000 in
theorem set_plain (B r : Nat) (s : ByteArray) (st : RS) (v : Value) (w : World) (h : RA B r s st v w) (hp : st.at_ < s.size) (hs : s.size ≤ 10000) (hc : by_ s st.at_ ≠ 46 ∧ by_ s st.at_ ≠ 91 ∧ by_ s st.at_ ≠ 92) :
    Calls Try.prog 56 #[.pointer (some ⟨r, 0, none⟩)] w (SetPost B r s st v (setF s st.at_) w) := by
  obtain ⟨W1, hW⟩ : ∃ W1, W1 = (w.alloc (.cells Try.zeroCells110 110)).alloc (.cells Try.zeroCells110 110) := ⟨_, rfl⟩
  have a0 : Arr W1 w.heap.size (fun _ => false) := by rw [hW]; exact (Arr.new w).below ((Below.refl (w.heap.size + 1) _).alloc (by simp) _) (by omega)
  have a1 : Arr W1 (w.heap.size + 1) (fun _ => false) := by rw [hW]; have := Arr.new (w.alloc (.cells Try.zeroCells110 110)); simpa using this
  have g1 : Grow w W1 := by rw [hW]; exact ((Grow.refl w).alloc _).alloc _
  have zW : W1.heap.size = w.heap.size + 2 := by rw [hW]; simp
  have h1 := h.grow g1
  have c0 := h1.c0
  have c1 := h1.c1
  have f1 := h1.fz 1
  have hr := h.lt
  have HV := Lib.hid (show ∀ g, v.ownBlock = some g → g < w.heap.size from fun g hg => (h.own.lt g hg).2)
  have H := Lib.hid h
  have A0 := Lib.hid a0
  have A1 := Lib.hid a1
  have G1 := Lib.hid g1
  have HW := Lib.hid hW
  obtain ⟨p, hpp⟩ : ∃ p, p = st.at_ := ⟨_, rfl⟩
  rw [← hpp] at c1 hp hc ⊢
  have HP := Lib.hid hpp
  have k1 : (p : Int) < (s.size : Int) := by omega
  have k0 : (0 : Int) ≤ (p : Int) := by omega
  have k2 : (p : Int) ≤ 10000 := by omega
  obtain ⟨c, hcc⟩ : ∃ c, c = by_ s p := ⟨_, rfl⟩
  have hcs : s[p].toNat = c := by rw [hcc, by_at s p hp]
  have hc256 : c < 256 := by rw [hcc]; exact by_lt _ _
  rw [← hcc] at hc
  have t1 : ((c : Int) == 46) = false := by simp; omega
  have t2 : ((c : Int) == 91) = false := by simp; omega
  have t3 : ((c : Int) == 92) = false := by simp; omega
  have i0 : (0 : Int) ≤ (c : Int) := by omega
  have i1 : (c : Int) < 256 := by omega
  have SP := Lib.hid (fun W => spec_any c hc256 W)
  have HC := Lib.hid hcc
  have HC3 := Lib.hid hc
  clear hW a0 a1 g1 h1 h hpp hcc hc
  cases hsp : specB c with
  | true =>
    have hS : setF s p = (none, p) := by
      unfold setF
      simp only [← HC.out]
      rw [if_neg (by simpa using HC3.out.1), if_neg (by simpa using HC3.out.2.1), if_neg (by simpa using HC3.out.2.2), if_pos hsp]
    rw [hS]
    rw [hsp] at SP
    have SA := Lib.hid (size_arr (fun _ => false))
    clear hsp
    go_enter Try.func56, Try.ntmps56
    go_wp2
    rw [← HW.out]
    go_quiet (fail)
    go_wp2_with fail
    refine (SP.out _).mono ?_
    rintro e w5 ⟨rfl, rfl⟩
    have B1 := Lib.hid (A1.out.below (below_drewN (Below.refl (w.heap.size + 2) W1) nq) (by omega))
    have B0 := Lib.hid (A0.out.below (below_drewN (Below.refl (w.heap.size + 2) W1) nq) (by omega))
    go_wp2_with (first | (refine wpList_load_row rfl 110 _ rfl (w.heap.size + 1) rfl 110 (arrC fun _ => false) (0, 0) _ B1.out und110 rfl SA.out ?_) | (refine wpList_store_row rfl 110 _ _ rfl w.heap.size (arrC fun _ => false) rfl rfl 110 (arrC fun _ => false) B0.out SA.out rfl (arrC_one _) ?_))
    have M9 := Lib.hid (Moved.stay (v := v) H.out (show Grow w ((W1.drewN nq).setRow w.heap.size (arrC fun _ => false)) from below_row (below_drewN G1.out nq) _))
    rw [← HP.out] at M9
    exact bodyPost_ret (v := .tuple #[.agg (arrC fun _ => false), .bool false]) (results56 _ _ w.heap.size _ _ rfl rfl (B0.out.row _)) rfl ⟨M9.out, _, false, rfl, rfl⟩
  | false =>
    have hS : setF s p = (some fun i => i == c, p + 1) := by
      unfold setF
      simp only [← HC.out]
      rw [if_neg (by simpa using HC3.out.1), if_neg (by simpa using HC3.out.2.1), if_neg (by simpa using HC3.out.2.2), if_neg (by rw [hsp]; decide)]
    rw [hS]
    rw [hsp] at SP
    have SA := Lib.hid (size_arr (fun j => decide (j = c)))
    have OS := Lib.hid (show (arrC fun _ => false).size = (arrC fun j => decide (j = c)).size from by rw [arrC_size, arrC_size])
    have hne1 : r ≠ w.heap.size + 1 := by omega
    have hne0 : r ≠ w.heap.size := by omega
    clear hsp
    go_enter Try.func56, Try.ntmps56
    go_wp2
    rw [← HW.out]
    go_quiet (fail)
    go_wp2_with fail
    refine (SP.out _).mono ?_
    rintro e w5 ⟨rfl, rfl⟩
    obtain ⟨W5, hW5⟩ : ∃ W5, W5 = W1.drewN nq := ⟨_, rfl⟩
    have b1 : Arr W5 (w.heap.size + 1) (fun _ => false) := by rw [hW5]; exact A1.out.below (below_drewN (Below.refl (w.heap.size + 2) W1) nq) (by omega)
    have b0 : Arr W5 w.heap.size (fun _ => false) := by rw [hW5]; exact A0.out.below (below_drewN (Below.refl (w.heap.size + 2) W1) nq) (by omega)
    have g5 : Grow w W5 := by rw [hW5]; exact below_drewN G1.out nq
    have d1 := (H.out.grow g5).c1
    have ff1 := (H.out.grow g5).fz 1
    rw [← HP.out] at d1
    have kc := b1.cell hc256
    have kf := b1.froz c
    have e2 : ((p + 1 : Nat) : Int) = (p : Int) + 1 := by omega
    have m4 := moved_set (q := p + 1) H.out g5
    rw [e2] at m4
    have M4 := Lib.hid m4
    have D1 := Lib.hid (((b1.far (x := .int .i64 ((p : Int) + 1)) (j := 1) hne1.symm).set c true).congr (m' := fun j => decide (j = c)) (fun i _ => by by_cases e : i = c <;> simp [e]))
    have D0 := Lib.hid ((b0.far (x := .int .i64 ((p : Int) + 1)) (j := 1) hne0.symm).far (r := w.heap.size + 1) (j := c) (x := .bool true) (by omega))
    have z5 := g5.size
    have B1H := Lib.hid b1
    rw [← hW5]
    clear hW5 m4 b1 b0 g5 e2 c0 c1 f1
    go_wp2_with (first | (refine wpList_load_row rfl 110 _ rfl (w.heap.size + 1) rfl 110 (arrC fun j => decide (j = c)) (0, 0) _ D1.out und110 rfl SA.out ?_) | (refine wpList_store_row rfl 110 _ _ rfl w.heap.size (arrC fun j => decide (j = c)) rfl rfl 110 (arrC fun _ => false) D0.out SA.out OS.out (arrC_one _) ?_))
    have M5 := M4.out.own (fr_set (G := w.heap.size + 1) (j := c) (x := .bool true)) (by omega) hr HV.out
    have M6 := M5.own (fr_row (G := w.heap.size) (m := fun j => decide (j = c))) (Nat.le_refl _) hr HV.out
    exact bodyPost_ret (v := .tuple #[.agg (arrC fun j => decide (j = c)), .bool true]) (results56 _ _ w.heap.size _ _ rfl rfl (D0.out.row _)) rfl ⟨M6, _, true, rfl, arrC_congr (fun i _ => rfl), rfl⟩
/-- 'set' at what is neither a point, nor a class, nor a stroke -/
theorem set_ok (s : ByteArray) (hs : s.size ≤ 10000) (h : ∀ p, p < s.size → by_ s p ≠ 46 ∧ by_ s p ≠ 91 ∧ by_ s p ≠ 92) : SetOk s :=
  fun B r st v w hr hp => set_plain B r s st v w hr hp hs (h _ hp)
end Go.Proofs.Ytldcbkememonaaa
