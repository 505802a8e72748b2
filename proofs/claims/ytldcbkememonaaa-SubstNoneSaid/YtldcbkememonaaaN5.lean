/-
  The walk of set, at a class; set at any place.
-/
import Derived.Test.YtldcbkememonaaaN4

namespace Go.Proofs.Ytldcbkememonaaa
open Go.RowKit
set_option linter.unusedVariables false
set_option linter.unusedSimpArgs false

set_option maxRecDepth 100000 in
set_option maxHeartbeats 4000000 in
theorem set_class (B r : Nat) (s : ByteArray) (st : RS) (v : Value) (w : World) (h : RA B r s st v w) (hp : st.at_ < s.size) (hs : s.size ≤ 10000) (hc : by_ s st.at_ = 91) :
    Calls Try.prog 56 #[.pointer (some ⟨r, 0, none⟩)] w (SetPost B r s st v (setF s st.at_) w) := by
  obtain ⟨W1, hW⟩ : ∃ W1, W1 = (w.alloc (.cells Try.zeroCells110 110)).alloc (.cells Try.zeroCells110 110) := ⟨_, rfl⟩
  have a0 : Arr W1 w.heap.size (fun _ => false) := by rw [hW]; exact (Arr.new w).below ((Below.refl (w.heap.size + 1) _).alloc (by simp) _) (by omega)
  have a1 : Arr W1 (w.heap.size + 1) (fun _ => false) := by rw [hW]; have := Arr.new (w.alloc (.cells Try.zeroCells110 110)); simpa using this
  have g1 : Grow w W1 := by rw [hW]; exact ((Grow.refl w).alloc _).alloc _
  have zW : W1.heap.size = w.heap.size + 2 := by rw [hW]; simp
  have h1 := h.grow g1
  have c0 := h1.c0
  have c1 := h1.c1
  have hr := h.lt
  have HV := Lib.hid (show ∀ g, v.ownBlock = some g → g < w.heap.size from fun g hg => (h.own.lt g hg).2)
  have H := Lib.hid h
  have A0 := Lib.hid a0
  have A1 := Lib.hid a1
  have G1 := Lib.hid g1
  have HW := Lib.hid hW
  have ZW := Lib.hid zW
  obtain ⟨p, hpp⟩ : ∃ p, p = st.at_ := ⟨_, rfl⟩
  rw [← hpp] at c1 hp hc ⊢
  have HP := Lib.hid hpp
  have hS : setF s p = classF s p := by
    unfold setF
    simp only [hc]
    rfl
  obtain ⟨SR, hSR⟩ : ∃ SR, SR = setF s p := ⟨_, rfl⟩
  rw [← hSR]
  rw [hS] at hSR
  have k1 : (p : Int) < (s.size : Int) := by omega
  have k0 : (0 : Int) ≤ (p : Int) := by omega
  have k2 : (p : Int) ≤ 10000 := by omega
  obtain ⟨c, hcc⟩ : ∃ c, c = by_ s p := ⟨_, rfl⟩
  have hcs : s[p].toNat = c := by rw [hcc, by_at s p hp]
  rw [← hcc] at hc
  have t1 : ((c : Int) == 46) = false := by simp; omega
  have t2 : ((c : Int) == 91) = true := by simp; omega
  have HC3 := Lib.hid hc
  have HPL := Lib.hid hp
  clear hW a0 a1 g1 h1 h hpp hcc hc hS zW
  have HSR := Lib.hid hSR
  clear hSR
  go_enter Try.func56, Try.ntmps56
  go_wp2
  rw [← HW.out]
  go_quiet (fail)
  obtain ⟨W5, hW5⟩ : ∃ W5, W5 = W1.drewN nq := ⟨_, rfl⟩
  have b0 : Arr W5 w.heap.size (fun _ => false) := by rw [hW5]; exact A0.out.below (below_drewN (Below.refl (w.heap.size + 2) W1) nq) (by omega)
  have g5 : Grow w W5 := by rw [hW5]; exact below_drewN G1.out nq
  have SK := class_any B r s st v W5 (H.out.grow g5) (by rw [← HP.out]; exact HPL.out) hs
  rw [← HP.out, ← HSR.out] at SK
  have SK := Lib.hid SK
  have M5 := Lib.hid (Moved.stay H.out g5)
  have B0 := Lib.hid b0
  rw [← hW5]
  clear hW5 b0 g5 c0 c1
  go_wp2_with fail
  refine SK.out.mono ?_
  rintro e w6 ⟨mv, m, ok, rfl, hm⟩
  have M6 := Lib.hid (M5.out.two mv)
  have E0 := Lib.hid (B0.out.fr mv.2 (by omega))
  clear mv SK
  have SA := Lib.hid (size_arr m)
  have OS := Lib.hid (show (arrC fun _ => false).size = (arrC m).size from by rw [arrC_size, arrC_size])
  have HM := Lib.hid hm
  clear hm
  go_wp2_with (refine wpList_store_row rfl 110 _ _ rfl w.heap.size (arrC m) rfl rfl 110 (arrC fun _ => false) E0.out SA.out OS.out (arrC_one _) ?_)
  have M8 := M6.out.own (fr_row (G := w.heap.size) (m := m)) (Nat.le_refl _) hr HV.out
  exact bodyPost_ret (v := .tuple #[.agg (arrC m), .bool ok]) (results56 _ _ w.heap.size _ _ rfl rfl (E0.out.row _)) rfl ⟨M8, m, ok, rfl, HM.out⟩
/-- 'set' at any place -/
theorem set_any (s : ByteArray) (hs : s.size ≤ 10000) : SetOk s := by
  intro B r st v w h hp
  by_cases h46 : by_ s st.at_ = 46
  · exact set_dot B r s st v w h hp hs h46
  · by_cases h91 : by_ s st.at_ = 91
    · exact set_class B r s st v w h hp hs h91
    · by_cases h92 : by_ s st.at_ = 92
      · exact set_stroke B r s st v w h hp hs h92
      · exact set_plain B r s st v w h hp hs ⟨h46, h91, h92⟩
end Go.Proofs.Ytldcbkememonaaa
