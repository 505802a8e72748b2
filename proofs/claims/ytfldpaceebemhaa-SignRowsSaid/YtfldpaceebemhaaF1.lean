/-
  The walks of graticuleref17.row, sig and in; the table by rows.
-/
import Derived.Test.YtfldpaceebemhaaO1
namespace Go.Proofs.Ytfldpaceebemhaa
open Go.RowKit

/-- the rows: names, and what they take -/
def rowsL : List (List ByteArray × (List Int × List Int × Int)) := [(nms0, ([1], [], 0)), (nms1, ([1, 2], [], 0)), (nms2, ([1, 3], [], 0)), (nms3, ([1], [2], 0)), (nms4, ([1], [3], 0)), (nms5, ([1, 6], [7], 0)), (nms6, ([1, 6], [], 0)), (nms7, ([1], [], 1)), (nms8, ([1, 1], [], 0)), (nms9, ([1], [1], 0)), (nms10, ([1, 4], [], 0)), (nms11, ([1, 7], [], 0)), (nms12, ([1, 4, 4], [], 0)), (nms13, ([1, 3], [], 3)), (nms14, ([1, 3], [3], 0)), (nms15, ([1, 3, 7], [], 0)), (nms16, ([1, 7, 3], [], 3)), (nms17, ([2], [], 0))]
def nmsF (k : Nat) : List ByteArray := ((rowsL[k]?).getD ([], ([], [], 0))).1
def sigF (k : Nat) : List Int × List Int × Int := ((rowsL[k]?).getD ([], ([], [], 0))).2
theorem tab_rows : tab = rowsL.flatMap fun r => r.1.map fun n => ⟨n, r.2.1, r.2.2.1, r.2.2.2⟩ := rfl
def isN (s : ByteArray) (l : List ByteArray) : Bool := l.any fun x => x.toList == s.toList
theorem find_row (s : ByteArray) (sg : List Int × List Int × Int) : ∀ l : List ByteArray, (isN s l = true → (l.map fun n => (⟨n, sg.1, sg.2.1, sg.2.2⟩ : SigD)).find? (fun d => d.name.toList == s.toList) = some ⟨s, sg.1, sg.2.1, sg.2.2⟩) ∧
    (isN s l = false → (l.map fun n => (⟨n, sg.1, sg.2.1, sg.2.2⟩ : SigD)).find? (fun d => d.name.toList == s.toList) = none)
  | [] => ⟨fun h => by simp [isN] at h, fun _ => rfl⟩
  | a :: l => by
    have ih := find_row s sg l
    unfold isN at *
    cases ha : a.toList == s.toList with
    | true =>
      have e : a = s := by
        rw [beq_iff_eq, ByteArray.toList_eq, ByteArray.toList_eq] at ha
        have : a.data = s.data := Array.ext' ha
        cases a; cases s; simp_all
      subst e
      exact ⟨fun _ => by simp [List.find?_cons], fun h => by simp [ha] at h⟩
    | false =>
      simp only [List.any_cons, ha, Bool.false_or, List.map_cons, List.find?_cons]
      exact ih
theorem find_rows (s : ByteArray) : ∀ (rs : List (List ByteArray × (List Int × List Int × Int))),
    (∀ (k : Nat) (r : List ByteArray × (List Int × List Int × Int)), rs[k]? = some r → (∀ (j : Nat) (q : List ByteArray × (List Int × List Int × Int)), j < k → rs[j]? = some q → isN s q.1 = false) → isN s r.1 = true →
      (rs.flatMap fun r => r.1.map fun n => (⟨n, r.2.1, r.2.2.1, r.2.2.2⟩ : SigD)).find? (fun d => d.name.toList == s.toList) = some ⟨s, r.2.1, r.2.2.1, r.2.2.2⟩) ∧
    ((∀ (j : Nat) (q : List ByteArray × (List Int × List Int × Int)), rs[j]? = some q → isN s q.1 = false) → (rs.flatMap fun r => r.1.map fun n => (⟨n, r.2.1, r.2.2.1, r.2.2.2⟩ : SigD)).find? (fun d => d.name.toList == s.toList) = none)
  | [] => ⟨fun k r h => by simp at h, fun _ => rfl⟩
  | a :: rs => by
    obtain ⟨ih1, ih2⟩ := find_rows s rs
    have fr := find_row s a.2 a.1
    refine ⟨fun k r hk hj hr => ?_, fun h => ?_⟩
    · rw [List.flatMap_cons, List.find?_append]
      cases k with
      | zero =>
        simp at hk
        subst hk
        rw [fr.1 hr]; rfl
      | succ k =>
        have h0 := hj 0 a (by omega) rfl
        rw [fr.2 h0]
        exact ih1 k r (by simpa using hk) (fun j q hjk hq => hj (j + 1) q (by omega) (by simpa using hq)) hr
    · rw [List.flatMap_cons, List.find?_append, fr.2 (h 0 a rfl)]
      exact ih2 (fun j q hq => h (j + 1) q (by simpa using hq))
theorem rowsL_at (k : Nat) (hk : k < 18) : rowsL[k]? = some (nmsF k, sigF k) := by
  have : k < rowsL.length := hk
  unfold nmsF sigF
  rw [List.getElem?_eq_getElem this]
  rfl
theorem ofF_row (s : ByteArray) (k : Nat) (hk : k < 18) (h : ∀ j, j < k → isN s (nmsF j) = false) (hr : isN s (nmsF k) = true) : ofF s = (⟨s, (sigF k).1, (sigF k).2.1, (sigF k).2.2⟩, true) := by
  unfold ofF
  rw [tab_rows, (find_rows s rowsL).1 k _ (rowsL_at k hk) (fun j q hj hq => by
    have := rowsL_at j (by omega)
    rw [hq] at this
    injection this with this
    subst this
    exact h j hj) hr]
theorem ofF_none (s : ByteArray) (h : ∀ j, j < 18 → isN s (nmsF j) = false) : ofF s = (⟨⟨#[]⟩, [], [], 0⟩, false) := by
  unfold ofF
  rw [tab_rows, (find_rows s rowsL).2 (fun j q hq => by
    have hj : j < 18 := by
      rcases Nat.lt_or_ge j 18 with h1 | h1
      · exact h1
      · rw [List.getElem?_eq_none h1] at hq; cases hq
    have := rowsL_at j hj
    rw [hq] at this
    injection this with this
    subst this
    exact h j hj)]

theorem in_any (s : ByteArray) (xs : List ByteArray) (g c : Nat) (w : World) (hn : xs.length ≤ 100) (h : ∀ k x, xs[k]? = some x → w.cell? ⟨g, k, none⟩ = some (.string x)) :
    Calls Try.prog 25 #[.string s, .slice (some ⟨g, 0, none⟩) xs.length c] w fun e w' => e = .returned (.bool (xs.any fun x => x.toList == s.toList)) ∧ w = w' := by
  obtain ⟨n, hN⟩ : ∃ n, n = xs.length := ⟨_, rfl⟩
  have HN := Lib.hid hN
  have HC := Lib.hid h
  rw [← hN] at hn ⊢
  clear h hN
  go_enter Try.func25, Try.ntmps25
  go_wp2
  go_loop [5] (fun i => ∃ k : Nat, k ≤ n ∧ i = .int .i64 k ∧ Hid ((xs.take k).any (fun x => x.toList == s.toList) = false)) (fun i => n - (intOf i).toNat)
  case atStart => exact ⟨0, by omega, rfl, Lib.hid rfl⟩
  case round =>
    obtain ⟨k, hk, rfl, H⟩ := hrel
    have k0 : (0 : Int) ≤ (k : Int) := by omega
    by_cases hlt : k < n
    · have h1 : (k : Int) < (n : Int) := by omega
      obtain ⟨x, hx⟩ : ∃ x, xs[k]? = some x := ⟨_, List.getElem?_eq_getElem (by rw [← HN.out]; exact hlt)⟩
      have hc := HC.out k x hx
      have HT := Lib.hid (show xs.take (k + 1) = xs.take k ++ [x] from by
        rw [List.take_add_one, hx]; rfl)
      have HX := Lib.hid hx
      clear hx
      cases he : (x.toList == s.toList) with
      | true =>
        have he' := he
        have HE := Lib.hid he
        clear he
        go_wp2
        go_ret
        refine ⟨ret_bool (Eq.symm (List.any_eq_true.mpr ⟨x, List.mem_of_getElem? HX.out, HE.out⟩)), rfl⟩
      | false =>
        have he' := he
        have HE := Lib.hid he
        clear he
        go_wp2
        go_round
        case rel => exact ⟨k + 1, by omega, by go_num, Lib.hid (by rw [HT.out, List.any_append, H.out]; simp [HE.out])⟩
        case measure => simp [intOf]; omega
    · have h1 : ¬ (k : Int) < (n : Int) := by omega
      obtain rfl : k = n := by omega
      go_wp2
      go_ret
      exact ⟨ret_bool (by have := H.out; rw [HN.out, List.take_length] at this; exact this.symm), rfl⟩

theorem row26_0 (w : World) : Calls Try.prog 26 #[.int .i64 0] w fun e w' => e = .returned (.slice (some ⟨w.heap.size, 0, none⟩) 16 16) ∧ w' = w.alloc (.cells (nms0.map Value.string).toArray 9) := by
  simp only [nms0, List.map_cons, List.map_nil]
  go_enter Try.func26, Try.ntmps26
  go_wp2
  go_ret
  exact ⟨rfl, rfl⟩
theorem row26_1 (w : World) : Calls Try.prog 26 #[.int .i64 1] w fun e w' => e = .returned (.slice (some ⟨w.heap.size, 0, none⟩) 13 13) ∧ w' = w.alloc (.cells (nms1.map Value.string).toArray 9) := by
  simp only [nms1, List.map_cons, List.map_nil]
  go_enter Try.func26, Try.ntmps26
  go_wp2
  go_ret
  exact ⟨rfl, rfl⟩
theorem row26_2 (w : World) : Calls Try.prog 26 #[.int .i64 2] w fun e w' => e = .returned (.slice (some ⟨w.heap.size, 0, none⟩) 17 17) ∧ w' = w.alloc (.cells (nms2.map Value.string).toArray 9) := by
  simp only [nms2, List.map_cons, List.map_nil]
  go_enter Try.func26, Try.ntmps26
  go_wp2
  go_ret
  exact ⟨rfl, rfl⟩
theorem row26_3 (w : World) : Calls Try.prog 26 #[.int .i64 3] w fun e w' => e = .returned (.slice (some ⟨w.heap.size, 0, none⟩) 3 3) ∧ w' = w.alloc (.cells (nms3.map Value.string).toArray 9) := by
  simp only [nms3, List.map_cons, List.map_nil]
  go_enter Try.func26, Try.ntmps26
  go_wp2
  go_ret
  exact ⟨rfl, rfl⟩
theorem row26_4 (w : World) : Calls Try.prog 26 #[.int .i64 4] w fun e w' => e = .returned (.slice (some ⟨w.heap.size, 0, none⟩) 2 2) ∧ w' = w.alloc (.cells (nms4.map Value.string).toArray 9) := by
  simp only [nms4, List.map_cons, List.map_nil]
  go_enter Try.func26, Try.ntmps26
  go_wp2
  go_ret
  exact ⟨rfl, rfl⟩
theorem row26_5 (w : World) : Calls Try.prog 26 #[.int .i64 5] w fun e w' => e = .returned (.slice (some ⟨w.heap.size, 0, none⟩) 1 1) ∧ w' = w.alloc (.cells (nms5.map Value.string).toArray 9) := by
  simp only [nms5, List.map_cons, List.map_nil]
  go_enter Try.func26, Try.ntmps26
  go_wp2
  go_ret
  exact ⟨rfl, rfl⟩
theorem row26_6 (w : World) : Calls Try.prog 26 #[.int .i64 6] w fun e w' => e = .returned (.slice (some ⟨w.heap.size, 0, none⟩) 2 2) ∧ w' = w.alloc (.cells (nms6.map Value.string).toArray 9) := by
  simp only [nms6, List.map_cons, List.map_nil]
  go_enter Try.func26, Try.ntmps26
  go_wp2
  go_ret
  exact ⟨rfl, rfl⟩
theorem row26_7 (w : World) : Calls Try.prog 26 #[.int .i64 7] w fun e w' => e = .returned (.slice (some ⟨w.heap.size, 0, none⟩) 11 11) ∧ w' = w.alloc (.cells (nms7.map Value.string).toArray 9) := by
  simp only [nms7, List.map_cons, List.map_nil]
  go_enter Try.func26, Try.ntmps26
  go_wp2
  go_ret
  exact ⟨rfl, rfl⟩
theorem row26_8 (w : World) : Calls Try.prog 26 #[.int .i64 8] w fun e w' => e = .returned (.slice (some ⟨w.heap.size, 0, none⟩) 1 1) ∧ w' = w.alloc (.cells (nms8.map Value.string).toArray 9) := by
  simp only [nms8, List.map_cons, List.map_nil]
  go_enter Try.func26, Try.ntmps26
  go_wp2
  go_ret
  exact ⟨rfl, rfl⟩
theorem row26_9 (w : World) : Calls Try.prog 26 #[.int .i64 9] w fun e w' => e = .returned (.slice (some ⟨w.heap.size, 0, none⟩) 1 1) ∧ w' = w.alloc (.cells (nms9.map Value.string).toArray 9) := by
  simp only [nms9, List.map_cons, List.map_nil]
  go_enter Try.func26, Try.ntmps26
  go_wp2
  go_ret
  exact ⟨rfl, rfl⟩
theorem row26_10 (w : World) : Calls Try.prog 26 #[.int .i64 10] w fun e w' => e = .returned (.slice (some ⟨w.heap.size, 0, none⟩) 3 3) ∧ w' = w.alloc (.cells (nms10.map Value.string).toArray 9) := by
  simp only [nms10, List.map_cons, List.map_nil]
  go_enter Try.func26, Try.ntmps26
  go_wp2
  go_ret
  exact ⟨rfl, rfl⟩
theorem row26_11 (w : World) : Calls Try.prog 26 #[.int .i64 11] w fun e w' => e = .returned (.slice (some ⟨w.heap.size, 0, none⟩) 2 2) ∧ w' = w.alloc (.cells (nms11.map Value.string).toArray 9) := by
  simp only [nms11, List.map_cons, List.map_nil]
  go_enter Try.func26, Try.ntmps26
  go_wp2
  go_ret
  exact ⟨rfl, rfl⟩
theorem row26_12 (w : World) : Calls Try.prog 26 #[.int .i64 12] w fun e w' => e = .returned (.slice (some ⟨w.heap.size, 0, none⟩) 1 1) ∧ w' = w.alloc (.cells (nms12.map Value.string).toArray 9) := by
  simp only [nms12, List.map_cons, List.map_nil]
  go_enter Try.func26, Try.ntmps26
  go_wp2
  go_ret
  exact ⟨rfl, rfl⟩
theorem row26_13 (w : World) : Calls Try.prog 26 #[.int .i64 13] w fun e w' => e = .returned (.slice (some ⟨w.heap.size, 0, none⟩) 1 1) ∧ w' = w.alloc (.cells (nms13.map Value.string).toArray 9) := by
  simp only [nms13, List.map_cons, List.map_nil]
  go_enter Try.func26, Try.ntmps26
  go_wp2
  go_ret
  exact ⟨rfl, rfl⟩
theorem row26_14 (w : World) : Calls Try.prog 26 #[.int .i64 14] w fun e w' => e = .returned (.slice (some ⟨w.heap.size, 0, none⟩) 1 1) ∧ w' = w.alloc (.cells (nms14.map Value.string).toArray 9) := by
  simp only [nms14, List.map_cons, List.map_nil]
  go_enter Try.func26, Try.ntmps26
  go_wp2
  go_ret
  exact ⟨rfl, rfl⟩
theorem row26_15 (w : World) : Calls Try.prog 26 #[.int .i64 15] w fun e w' => e = .returned (.slice (some ⟨w.heap.size, 0, none⟩) 1 1) ∧ w' = w.alloc (.cells (nms15.map Value.string).toArray 9) := by
  simp only [nms15, List.map_cons, List.map_nil]
  go_enter Try.func26, Try.ntmps26
  go_wp2
  go_ret
  exact ⟨rfl, rfl⟩
theorem row26_16 (w : World) : Calls Try.prog 26 #[.int .i64 16] w fun e w' => e = .returned (.slice (some ⟨w.heap.size, 0, none⟩) 1 1) ∧ w' = w.alloc (.cells (nms16.map Value.string).toArray 9) := by
  simp only [nms16, List.map_cons, List.map_nil]
  go_enter Try.func26, Try.ntmps26
  go_wp2
  go_ret
  exact ⟨rfl, rfl⟩
theorem row26_17 (w : World) : Calls Try.prog 26 #[.int .i64 17] w fun e w' => e = .returned (.slice (some ⟨w.heap.size, 0, none⟩) 1 1) ∧ w' = w.alloc (.cells (nms17.map Value.string).toArray 9) := by
  simp only [nms17, List.map_cons, List.map_nil]
  go_enter Try.func26, Try.ntmps26
  go_wp2
  go_ret
  exact ⟨rfl, rfl⟩
/-- a row: its names in new memory -/
theorem row26 (k : Nat) (hk : k < 18) (w : World) : Calls Try.prog 26 #[.int .i64 k] w fun e w' => e = .returned (.slice (some ⟨w.heap.size, 0, none⟩) (nmsF k).length (nmsF k).length) ∧ w' = w.alloc (.cells ((nmsF k).map Value.string).toArray 9) := by
  rcases (show k = 0 ∨ k = 1 ∨ k = 2 ∨ k = 3 ∨ k = 4 ∨ k = 5 ∨ k = 6 ∨ k = 7 ∨ k = 8 ∨ k = 9 ∨ k = 10 ∨ k = 11 ∨ k = 12 ∨ k = 13 ∨ k = 14 ∨ k = 15 ∨ k = 16 ∨ k = 17 from by omega) with rfl | rfl | rfl | rfl | rfl | rfl | rfl | rfl | rfl | rfl | rfl | rfl | rfl | rfl | rfl | rfl | rfl | rfl
  · exact row26_0 w
  · exact row26_1 w
  · exact row26_2 w
  · exact row26_3 w
  · exact row26_4 w
  · exact row26_5 w
  · exact row26_6 w
  · exact row26_7 w
  · exact row26_8 w
  · exact row26_9 w
  · exact row26_10 w
  · exact row26_11 w
  · exact row26_12 w
  · exact row26_13 w
  · exact row26_14 w
  · exact row26_15 w
  · exact row26_16 w
  · exact row26_17 w
theorem sig27_0 (w : World) : Calls Try.prog 27 #[.int .i64 0] w fun e w' => ∃ nv mv, e = .returned (.agg #[.string ⟨#[]⟩, nv, mv, .int .i64 0]) ∧ IntsIn [1] nv w' ∧ IntsIn [] mv w' ∧ Grow w w' := by
  go_enter Try.func27, Try.ntmps27
  go_wp2
  refine bodyPost_ret (v := .agg #[.string ⟨#[]⟩, .slice (some ⟨w.heap.size + 1, 0, none⟩) 1 1, .slice none 0 0, .int .i64 0]) (by simp [results, Try.results27, go_sem]) rfl ?_
  exact ⟨_, _, rfl, ints_lit _ _ (by simp) [1] 1 rfl (by decide), ints_nil _, ((Grow.refl _).alloc _).alloc _⟩
theorem sig27_1 (w : World) : Calls Try.prog 27 #[.int .i64 1] w fun e w' => ∃ nv mv, e = .returned (.agg #[.string ⟨#[]⟩, nv, mv, .int .i64 0]) ∧ IntsIn [1, 2] nv w' ∧ IntsIn [] mv w' ∧ Grow w w' := by
  go_enter Try.func27, Try.ntmps27
  go_wp2
  refine bodyPost_ret (v := .agg #[.string ⟨#[]⟩, .slice (some ⟨w.heap.size + 1, 0, none⟩) 2 2, .slice none 0 0, .int .i64 0]) (by simp [results, Try.results27, go_sem]) rfl ?_
  exact ⟨_, _, rfl, ints_lit _ _ (by simp) [1, 2] 2 rfl (by decide), ints_nil _, ((Grow.refl _).alloc _).alloc _⟩
theorem sig27_2 (w : World) : Calls Try.prog 27 #[.int .i64 2] w fun e w' => ∃ nv mv, e = .returned (.agg #[.string ⟨#[]⟩, nv, mv, .int .i64 0]) ∧ IntsIn [1, 3] nv w' ∧ IntsIn [] mv w' ∧ Grow w w' := by
  go_enter Try.func27, Try.ntmps27
  go_wp2
  refine bodyPost_ret (v := .agg #[.string ⟨#[]⟩, .slice (some ⟨w.heap.size + 1, 0, none⟩) 2 2, .slice none 0 0, .int .i64 0]) (by simp [results, Try.results27, go_sem]) rfl ?_
  exact ⟨_, _, rfl, ints_lit _ _ (by simp) [1, 3] 2 rfl (by decide), ints_nil _, ((Grow.refl _).alloc _).alloc _⟩
theorem sig27_3 (w : World) : Calls Try.prog 27 #[.int .i64 3] w fun e w' => ∃ nv mv, e = .returned (.agg #[.string ⟨#[]⟩, nv, mv, .int .i64 0]) ∧ IntsIn [1] nv w' ∧ IntsIn [2] mv w' ∧ Grow w w' := by
  go_enter Try.func27, Try.ntmps27
  go_wp2
  refine bodyPost_ret (v := .agg #[.string ⟨#[]⟩, .slice (some ⟨w.heap.size + 1, 0, none⟩) 1 1, .slice (some ⟨w.heap.size + 1 + 1, 0, none⟩) 1 1, .int .i64 0]) (by simp [results, Try.results27, go_sem]) rfl ?_
  exact ⟨_, _, rfl, (ints_lit _ _ (by simp) [1] 1 rfl (by decide)).grow ((Grow.refl _).alloc _), ints_lit _ _ (by simp) [2] 1 rfl (by decide), (((Grow.refl _).alloc _).alloc _).alloc _⟩
theorem sig27_4 (w : World) : Calls Try.prog 27 #[.int .i64 4] w fun e w' => ∃ nv mv, e = .returned (.agg #[.string ⟨#[]⟩, nv, mv, .int .i64 0]) ∧ IntsIn [1] nv w' ∧ IntsIn [3] mv w' ∧ Grow w w' := by
  go_enter Try.func27, Try.ntmps27
  go_wp2
  refine bodyPost_ret (v := .agg #[.string ⟨#[]⟩, .slice (some ⟨w.heap.size + 1, 0, none⟩) 1 1, .slice (some ⟨w.heap.size + 1 + 1, 0, none⟩) 1 1, .int .i64 0]) (by simp [results, Try.results27, go_sem]) rfl ?_
  exact ⟨_, _, rfl, (ints_lit _ _ (by simp) [1] 1 rfl (by decide)).grow ((Grow.refl _).alloc _), ints_lit _ _ (by simp) [3] 1 rfl (by decide), (((Grow.refl _).alloc _).alloc _).alloc _⟩
theorem sig27_5 (w : World) : Calls Try.prog 27 #[.int .i64 5] w fun e w' => ∃ nv mv, e = .returned (.agg #[.string ⟨#[]⟩, nv, mv, .int .i64 0]) ∧ IntsIn [1, 6] nv w' ∧ IntsIn [7] mv w' ∧ Grow w w' := by
  go_enter Try.func27, Try.ntmps27
  go_wp2
  refine bodyPost_ret (v := .agg #[.string ⟨#[]⟩, .slice (some ⟨w.heap.size + 1, 0, none⟩) 2 2, .slice (some ⟨w.heap.size + 1 + 1, 0, none⟩) 1 1, .int .i64 0]) (by simp [results, Try.results27, go_sem]) rfl ?_
  exact ⟨_, _, rfl, (ints_lit _ _ (by simp) [1, 6] 2 rfl (by decide)).grow ((Grow.refl _).alloc _), ints_lit _ _ (by simp) [7] 1 rfl (by decide), (((Grow.refl _).alloc _).alloc _).alloc _⟩
theorem sig27_6 (w : World) : Calls Try.prog 27 #[.int .i64 6] w fun e w' => ∃ nv mv, e = .returned (.agg #[.string ⟨#[]⟩, nv, mv, .int .i64 0]) ∧ IntsIn [1, 6] nv w' ∧ IntsIn [] mv w' ∧ Grow w w' := by
  go_enter Try.func27, Try.ntmps27
  go_wp2
  refine bodyPost_ret (v := .agg #[.string ⟨#[]⟩, .slice (some ⟨w.heap.size + 1, 0, none⟩) 2 2, .slice none 0 0, .int .i64 0]) (by simp [results, Try.results27, go_sem]) rfl ?_
  exact ⟨_, _, rfl, ints_lit _ _ (by simp) [1, 6] 2 rfl (by decide), ints_nil _, ((Grow.refl _).alloc _).alloc _⟩
theorem sig27_7 (w : World) : Calls Try.prog 27 #[.int .i64 7] w fun e w' => ∃ nv mv, e = .returned (.agg #[.string ⟨#[]⟩, nv, mv, .int .i64 1]) ∧ IntsIn [1] nv w' ∧ IntsIn [] mv w' ∧ Grow w w' := by
  go_enter Try.func27, Try.ntmps27
  go_wp2
  refine bodyPost_ret (v := .agg #[.string ⟨#[]⟩, .slice (some ⟨w.heap.size + 1, 0, none⟩) 1 1, .slice none 0 0, .int .i64 1]) (by simp [results, Try.results27, go_sem]) rfl ?_
  exact ⟨_, _, rfl, ints_lit _ _ (by simp) [1] 1 rfl (by decide), ints_nil _, ((Grow.refl _).alloc _).alloc _⟩
theorem sig27_8 (w : World) : Calls Try.prog 27 #[.int .i64 8] w fun e w' => ∃ nv mv, e = .returned (.agg #[.string ⟨#[]⟩, nv, mv, .int .i64 0]) ∧ IntsIn [1, 1] nv w' ∧ IntsIn [] mv w' ∧ Grow w w' := by
  go_enter Try.func27, Try.ntmps27
  go_wp2
  refine bodyPost_ret (v := .agg #[.string ⟨#[]⟩, .slice (some ⟨w.heap.size + 1, 0, none⟩) 2 2, .slice none 0 0, .int .i64 0]) (by simp [results, Try.results27, go_sem]) rfl ?_
  exact ⟨_, _, rfl, ints_lit _ _ (by simp) [1, 1] 2 rfl (by decide), ints_nil _, ((Grow.refl _).alloc _).alloc _⟩
theorem sig27_9 (w : World) : Calls Try.prog 27 #[.int .i64 9] w fun e w' => ∃ nv mv, e = .returned (.agg #[.string ⟨#[]⟩, nv, mv, .int .i64 0]) ∧ IntsIn [1] nv w' ∧ IntsIn [1] mv w' ∧ Grow w w' := by
  go_enter Try.func27, Try.ntmps27
  go_wp2
  refine bodyPost_ret (v := .agg #[.string ⟨#[]⟩, .slice (some ⟨w.heap.size + 1, 0, none⟩) 1 1, .slice (some ⟨w.heap.size + 1 + 1, 0, none⟩) 1 1, .int .i64 0]) (by simp [results, Try.results27, go_sem]) rfl ?_
  exact ⟨_, _, rfl, (ints_lit _ _ (by simp) [1] 1 rfl (by decide)).grow ((Grow.refl _).alloc _), ints_lit _ _ (by simp) [1] 1 rfl (by decide), (((Grow.refl _).alloc _).alloc _).alloc _⟩
theorem sig27_10 (w : World) : Calls Try.prog 27 #[.int .i64 10] w fun e w' => ∃ nv mv, e = .returned (.agg #[.string ⟨#[]⟩, nv, mv, .int .i64 0]) ∧ IntsIn [1, 4] nv w' ∧ IntsIn [] mv w' ∧ Grow w w' := by
  go_enter Try.func27, Try.ntmps27
  go_wp2
  refine bodyPost_ret (v := .agg #[.string ⟨#[]⟩, .slice (some ⟨w.heap.size + 1, 0, none⟩) 2 2, .slice none 0 0, .int .i64 0]) (by simp [results, Try.results27, go_sem]) rfl ?_
  exact ⟨_, _, rfl, ints_lit _ _ (by simp) [1, 4] 2 rfl (by decide), ints_nil _, ((Grow.refl _).alloc _).alloc _⟩
theorem sig27_11 (w : World) : Calls Try.prog 27 #[.int .i64 11] w fun e w' => ∃ nv mv, e = .returned (.agg #[.string ⟨#[]⟩, nv, mv, .int .i64 0]) ∧ IntsIn [1, 7] nv w' ∧ IntsIn [] mv w' ∧ Grow w w' := by
  go_enter Try.func27, Try.ntmps27
  go_wp2
  refine bodyPost_ret (v := .agg #[.string ⟨#[]⟩, .slice (some ⟨w.heap.size + 1, 0, none⟩) 2 2, .slice none 0 0, .int .i64 0]) (by simp [results, Try.results27, go_sem]) rfl ?_
  exact ⟨_, _, rfl, ints_lit _ _ (by simp) [1, 7] 2 rfl (by decide), ints_nil _, ((Grow.refl _).alloc _).alloc _⟩
theorem sig27_12 (w : World) : Calls Try.prog 27 #[.int .i64 12] w fun e w' => ∃ nv mv, e = .returned (.agg #[.string ⟨#[]⟩, nv, mv, .int .i64 0]) ∧ IntsIn [1, 4, 4] nv w' ∧ IntsIn [] mv w' ∧ Grow w w' := by
  go_enter Try.func27, Try.ntmps27
  go_wp2
  refine bodyPost_ret (v := .agg #[.string ⟨#[]⟩, .slice (some ⟨w.heap.size + 1, 0, none⟩) 3 3, .slice none 0 0, .int .i64 0]) (by simp [results, Try.results27, go_sem]) rfl ?_
  exact ⟨_, _, rfl, ints_lit _ _ (by simp) [1, 4, 4] 3 rfl (by decide), ints_nil _, ((Grow.refl _).alloc _).alloc _⟩
theorem sig27_13 (w : World) : Calls Try.prog 27 #[.int .i64 13] w fun e w' => ∃ nv mv, e = .returned (.agg #[.string ⟨#[]⟩, nv, mv, .int .i64 3]) ∧ IntsIn [1, 3] nv w' ∧ IntsIn [] mv w' ∧ Grow w w' := by
  go_enter Try.func27, Try.ntmps27
  go_wp2
  refine bodyPost_ret (v := .agg #[.string ⟨#[]⟩, .slice (some ⟨w.heap.size + 1, 0, none⟩) 2 2, .slice none 0 0, .int .i64 3]) (by simp [results, Try.results27, go_sem]) rfl ?_
  exact ⟨_, _, rfl, ints_lit _ _ (by simp) [1, 3] 2 rfl (by decide), ints_nil _, ((Grow.refl _).alloc _).alloc _⟩
theorem sig27_14 (w : World) : Calls Try.prog 27 #[.int .i64 14] w fun e w' => ∃ nv mv, e = .returned (.agg #[.string ⟨#[]⟩, nv, mv, .int .i64 0]) ∧ IntsIn [1, 3] nv w' ∧ IntsIn [3] mv w' ∧ Grow w w' := by
  go_enter Try.func27, Try.ntmps27
  go_wp2
  refine bodyPost_ret (v := .agg #[.string ⟨#[]⟩, .slice (some ⟨w.heap.size + 1, 0, none⟩) 2 2, .slice (some ⟨w.heap.size + 1 + 1, 0, none⟩) 1 1, .int .i64 0]) (by simp [results, Try.results27, go_sem]) rfl ?_
  exact ⟨_, _, rfl, (ints_lit _ _ (by simp) [1, 3] 2 rfl (by decide)).grow ((Grow.refl _).alloc _), ints_lit _ _ (by simp) [3] 1 rfl (by decide), (((Grow.refl _).alloc _).alloc _).alloc _⟩
theorem sig27_15 (w : World) : Calls Try.prog 27 #[.int .i64 15] w fun e w' => ∃ nv mv, e = .returned (.agg #[.string ⟨#[]⟩, nv, mv, .int .i64 0]) ∧ IntsIn [1, 3, 7] nv w' ∧ IntsIn [] mv w' ∧ Grow w w' := by
  go_enter Try.func27, Try.ntmps27
  go_wp2
  refine bodyPost_ret (v := .agg #[.string ⟨#[]⟩, .slice (some ⟨w.heap.size + 1, 0, none⟩) 3 3, .slice none 0 0, .int .i64 0]) (by simp [results, Try.results27, go_sem]) rfl ?_
  exact ⟨_, _, rfl, ints_lit _ _ (by simp) [1, 3, 7] 3 rfl (by decide), ints_nil _, ((Grow.refl _).alloc _).alloc _⟩
theorem sig27_16 (w : World) : Calls Try.prog 27 #[.int .i64 16] w fun e w' => ∃ nv mv, e = .returned (.agg #[.string ⟨#[]⟩, nv, mv, .int .i64 3]) ∧ IntsIn [1, 7, 3] nv w' ∧ IntsIn [] mv w' ∧ Grow w w' := by
  go_enter Try.func27, Try.ntmps27
  go_wp2
  refine bodyPost_ret (v := .agg #[.string ⟨#[]⟩, .slice (some ⟨w.heap.size + 1, 0, none⟩) 3 3, .slice none 0 0, .int .i64 3]) (by simp [results, Try.results27, go_sem]) rfl ?_
  exact ⟨_, _, rfl, ints_lit _ _ (by simp) [1, 7, 3] 3 rfl (by decide), ints_nil _, ((Grow.refl _).alloc _).alloc _⟩
theorem sig27_17 (w : World) : Calls Try.prog 27 #[.int .i64 17] w fun e w' => ∃ nv mv, e = .returned (.agg #[.string ⟨#[]⟩, nv, mv, .int .i64 0]) ∧ IntsIn [2] nv w' ∧ IntsIn [] mv w' ∧ Grow w w' := by
  go_enter Try.func27, Try.ntmps27
  go_wp2
  refine bodyPost_ret (v := .agg #[.string ⟨#[]⟩, .slice (some ⟨w.heap.size + 1, 0, none⟩) 1 1, .slice none 0 0, .int .i64 0]) (by simp [results, Try.results27, go_sem]) rfl ?_
  exact ⟨_, _, rfl, ints_lit _ _ (by simp) [2] 1 rfl (by decide), ints_nil _, ((Grow.refl _).alloc _).alloc _⟩
theorem sig27 (k : Nat) (hk : k < 18) (w : World) : Calls Try.prog 27 #[.int .i64 k] w fun e w' => ∃ nv mv, e = .returned (.agg #[.string ⟨#[]⟩, nv, mv, .int .i64 (sigF k).2.2]) ∧ IntsIn (sigF k).1 nv w' ∧ IntsIn (sigF k).2.1 mv w' ∧ Grow w w' := by
  rcases (show k = 0 ∨ k = 1 ∨ k = 2 ∨ k = 3 ∨ k = 4 ∨ k = 5 ∨ k = 6 ∨ k = 7 ∨ k = 8 ∨ k = 9 ∨ k = 10 ∨ k = 11 ∨ k = 12 ∨ k = 13 ∨ k = 14 ∨ k = 15 ∨ k = 16 ∨ k = 17 from by omega) with rfl | rfl | rfl | rfl | rfl | rfl | rfl | rfl | rfl | rfl | rfl | rfl | rfl | rfl | rfl | rfl | rfl | rfl
  · exact sig27_0 w
  · exact sig27_1 w
  · exact sig27_2 w
  · exact sig27_3 w
  · exact sig27_4 w
  · exact sig27_5 w
  · exact sig27_6 w
  · exact sig27_7 w
  · exact sig27_8 w
  · exact sig27_9 w
  · exact sig27_10 w
  · exact sig27_11 w
  · exact sig27_12 w
  · exact sig27_13 w
  · exact sig27_14 w
  · exact sig27_15 w
  · exact sig27_16 w
  · exact sig27_17 w
end Go.Proofs.Ytfldpaceebemhaa
