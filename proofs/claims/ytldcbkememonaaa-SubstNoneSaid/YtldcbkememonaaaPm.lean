/-
  '==' on sets in memory. / The walk of set, at a point and at a stroke.
-/
import Derived.Test.YtldcbkememonaaaC8
import Derived.Laws.StructEq
namespace Go.Proofs.Ytldcbkememonaaa
open Go.RowKit
set_option linter.unusedVariables false
set_option linter.unusedSimpArgs false

def eqArr (m1 m2 : Nat → Bool) : Bool := (List.range 256).all fun i => m1 i == m2 i
theorem part_arr (m : Nat → Bool) (i : Nat) (h : i < 256) (w : World) : (part 4 (arrC m) (i * 1)).run Try.prog w = .ok (.bool (m i)) w := by
  unfold part
  simp [Try.isAgg4, Try.sizeOf4, arrC_at m i h]
theorem eq_loop (m1 m2 : Nat → Bool) (w : World) : ∀ (l : List Nat), (∀ i ∈ l, i < 256) → (forIn (m := Sem) l ((none : Option Bool), ()) fun i __s => do
              let a ← part 4 (arrC m1) (i * 1)
              let b ← part 4 (arrC m2) (i * 1)
              let c ← Op.equalIn 9999 4 a b
              if (!c) = true then pure (ForInStep.done (some false, ())) else pure (ForInStep.yield (none, ()))).run Try.prog w = .ok (if (l.all fun i => m1 i == m2 i) then (none, ()) else (some false, ())) w
  | [], _ => by simp
  | i :: l, h => by
    have hi := h i (by simp)
    rw [List.forIn_cons]
    simp only [Sem.run_bind, part_arr m1 i hi, part_arr m2 i hi, Result.andThen_ok, run_equalIn_bool w 9998 4 (m1 i) (m2 i) Try.underlying4]
    cases he : (m1 i == m2 i) with
    | true =>
      simp only [Bool.not_true, Bool.false_eq_true, if_false, Sem.run_pure, Result.andThen_ok]
      rw [eq_loop m1 m2 w l (fun j hj => h j (by simp [hj]))]
      simp [he]
    | false =>
      simp [he]
theorem run_eq110 (m1 m2 : Nat → Bool) (w : World) : (Op.equalIn 10000 110 (.agg (arrC m1)) (.agg (arrC m2))).run Try.prog w = .ok (eqArr m1 m2) w := by
  unfold Op.equalIn
  have hs : (Sem.run Try.prog (sizeOf 4) w) = .ok 1 w := by simp [Try.sizeOf4]
  simp only [Sem.run_bind, run_underlying und110, Result.andThen_ok, hs]
  rw [Std.Legacy.Range.forIn_eq_forIn_range']
  have hl := eq_loop m1 m2 w (List.range' 0 256 1) (fun i hi => by simp at hi; omega)
  simp only [Std.Legacy.Range.size]
  rw [show ((256 - 0 + 1 - 1) / 1 : Nat) = 256 from rfl, hl, Result.andThen_ok]
  unfold eqArr
  rw [List.range_eq_range']
  cases (List.range' 0 256).all fun i => m1 i == m2 i <;> simp
theorem guard110 : Try.prog.eqGuardType Try.prog.depth 110 = false := by kernel_rfl
theorem run_eq110z (m1 : Nat → Bool) (w : World) : (Op.equalIn 10000 110 (.agg (arrC m1)) (.agg Try.zeroCells110)).run Try.prog w = .ok (eqArr m1 (fun _ => false)) w := by
  rw [zero110]; exact run_eq110 _ _ _
theorem eq_none (m : Nat → Bool) (h : ∀ i, i < 256 → m i = false) : eqArr m (fun _ => false) = true := by
  unfold eqArr
  rw [List.all_eq_true]
  intro i hi
  rw [h i (by simpa using hi)]
  rfl
theorem eq_some (m : Nat → Bool) (i : Nat) (hi : i < 256) (h : m i = true) : eqArr m (fun _ => false) = false := by
  unfold eqArr
  rw [List.all_eq_false]
  exact ⟨i, by simpa using hi, by rw [h]; simp⟩
theorem six_some (c : Nat) (h : sixOk c = true) : ∃ i, i < 256 ∧ sixM c i = true := by
  have hc : c = 100 ∨ c = 68 ∨ c = 119 ∨ c = 87 ∨ c = 115 ∨ c = 83 := by
    unfold sixOk isD isW isS at h
    simp at h
    omega
  rcases hc with rfl | rfl | rfl | rfl | rfl | rfl
  · exact ⟨48, by omega, by decide⟩
  · exact ⟨0, by omega, by decide⟩
  · exact ⟨48, by omega, by decide⟩
  · exact ⟨0, by omega, by decide⟩
  · exact ⟨32, by omega, by decide⟩
  · exact ⟨0, by omega, by decide⟩
/-- an item is none of the six just if its set is empty -/
theorem eq_it (it : It) (h : ∀ c, it.six = some c → sixOk c = true) : eqArr (itM it) (fun _ => false) = it.six.isNone := by
  unfold itM
  cases hs : it.six with
  | none => exact eq_none _ (fun _ _ => rfl)
  | some c =>
    obtain ⟨i, hi, hm⟩ := six_some c (h c hs)
    exact eq_some _ i hi hm
theorem stroke_six_ok (s : ByteArray) (p : Nat) (it : It) (q : Nat) (h : strokeF s p = (some it, q)) : (∀ c, it.six = some c → sixOk c = true) ∧ it.a < 256 ∧ (it.six ≠ none → it.a = 0) ∧ q ≤ s.size := by
  unfold strokeF at h
  split at h
  · simp only at h
    split at h
    · rename_i h1 h6
      injection h with h1 h2
      injection h1 with h1
      subst h1 h2
      exact ⟨fun c hc => by simp at hc; subst hc; exact h6, by simp, fun _ => rfl, by omega⟩
    · split at h
      · injection h with h1 _
        cases h1
      · injection h with h1 h2
        injection h1 with h1
        subst h1 h2
        exact ⟨fun c hc => by simp at hc, by simp only; exact by_lt _ _, fun hh => absurd rfl hh, by omega⟩
  · injection h with h1 _
    cases h1
theorem item_six_ok (s : ByteArray) (p : Nat) (it : It) (q : Nat) (h : itemF s p = (some it, q)) : (∀ c, it.six = some c → sixOk c = true) ∧ it.a < 256 ∧ (it.six ≠ none → it.a = 0) ∧ q ≤ s.size ∧ p < q := by
  unfold itemF at h
  split at h
  · split at h
    · obtain ⟨a, b, c, d⟩ := stroke_six_ok s p it q h
      refine ⟨a, b, c, d, ?_⟩
      unfold strokeF at h
      split at h
      · simp only at h
        split at h
        · injection h with _ h2; omega
        · split at h
          · injection h with h1 _; cases h1
          · injection h with _ h2; omega
      · injection h with h1 _
        cases h1
    · injection h with h1 h2
      injection h1 with h1
      subst h1 h2
      exact ⟨fun c hc => by simp at hc, by simp only; exact by_lt _ _, fun hh => absurd rfl hh, by omega, by omega⟩
  · injection h with h1 _
    cases h1
end Go.Proofs.Ytldcbkememonaaa

namespace Go.Proofs.Ytldcbkememonaaa
open Go.RowKit
set_option linter.unusedVariables false
set_option linter.unusedSimpArgs false

/-- bytes of a set, up to one -/
def dotM (i j : Nat) : Bool := decide (j < i) && (j != 10)
set_option maxRecDepth 100000 in
set_option maxHeartbeats 4000000 in
theorem set_dot (B r : Nat) (s : ByteArray) (st : RS) (v : Value) (w : World) (h : RA B r s st v w) (hp : st.at_ < s.size) (hs : s.size ≤ 10000) (hc : by_ s st.at_ = 46) :
    Calls Try.prog 56 #[.pointer (some ⟨r, 0, none⟩)] w (SetPost B r s st v (setF s st.at_) w) := by
  obtain ⟨W1, hW⟩ : ∃ W1, W1 = (w.alloc (.cells Try.zeroCells110 110)).alloc (.cells Try.zeroCells110 110) := ⟨_, rfl⟩
  have a0 : Arr W1 w.heap.size (fun _ => false) := by rw [hW]; exact (Arr.new w).below ((Below.refl (w.heap.size + 1) _).alloc (by simp) _) (by omega)
  have a1 : Arr W1 (w.heap.size + 1) (fun _ => false) := by rw [hW]; have := Arr.new (w.alloc (.cells Try.zeroCells110 110)); simpa using this
  have g1 : Grow w W1 := by rw [hW]; exact ((Grow.refl w).alloc _).alloc _
  have zW : W1.heap.size = w.heap.size + 2 := by rw [hW]; simp
  have h1 := h.grow g1
  have c0 := h1.c0
  have c1 := h1.c1
  have hr := h.lt
  have HV := Lib.hid (show ∀ g, v.ownBlock = some g → g < w.heap.size from fun g hg => (h.own.lt g hg).2)
  have H := Lib.hid h
  have A0 := Lib.hid a0
  have A1 := Lib.hid a1
  have G1 := Lib.hid g1
  have HW := Lib.hid hW
  have ZW := Lib.hid zW
  obtain ⟨p, hpp⟩ : ∃ p, p = st.at_ := ⟨_, rfl⟩
  rw [← hpp] at c1 hp hc ⊢
  have HP := Lib.hid hpp
  have hS : setF s p = (some fun i => i != 10, p + 1) := by
    unfold setF
    simp only [hc]
    rfl
  rw [hS]
  have k1 : (p : Int) < (s.size : Int) := by omega
  have k0 : (0 : Int) ≤ (p : Int) := by omega
  have k2 : (p : Int) ≤ 10000 := by omega
  obtain ⟨c, hcc⟩ : ∃ c, c = by_ s p := ⟨_, rfl⟩
  have hcs : s[p].toNat = c := by rw [hcc, by_at s p hp]
  rw [← hcc] at hc
  have t1 : ((c : Int) == 46) = true := by simp; omega
  have HC3 := Lib.hid hc
  clear hW a0 a1 g1 h1 h hpp hcc hc hS zW
  go_enter Try.func56, Try.ntmps56
  go_wp2
  rw [← HW.out]
  go_quiet (fail)
  obtain ⟨W5, hW5⟩ : ∃ W5, W5 = W1.drewN nq := ⟨_, rfl⟩
  have b1 : Arr W5 (w.heap.size + 1) (fun _ => false) := by rw [hW5]; exact A1.out.below (below_drewN (Below.refl (w.heap.size + 2) W1) nq) (by omega)
  have b0 : Arr W5 w.heap.size (fun _ => false) := by rw [hW5]; exact A0.out.below (below_drewN (Below.refl (w.heap.size + 2) W1) nq) (by omega)
  have g5 : Grow w W5 := by rw [hW5]; exact below_drewN G1.out nq
  have d1 := (H.out.grow g5).c1
  have ff1 := (H.out.grow g5).fz 1
  rw [← HP.out] at d1
  have hne1 : r ≠ w.heap.size + 1 := by omega
  have hne0 : r ≠ w.heap.size := by omega
  have e2 : ((p + 1 : Nat) : Int) = (p : Int) + 1 := by omega
  have m4 := moved_set (q := p + 1) H.out g5
  rw [e2] at m4
  have M4 := Lib.hid m4
  have D1 := Lib.hid ((b1.far (x := .int .i64 ((p : Int) + 1)) (j := 1) hne1.symm).congr (m' := dotM 0) (fun i _ => by unfold dotM; simp))
  have D0 := Lib.hid (b0.far (x := .int .i64 ((p : Int) + 1)) (j := 1) hne0.symm)
  rw [← hW5]
  clear hW5 m4 b1 b0 g5 e2 c0 c1
  go_wp2
  go_loopw [6] (fun t wr => ∃ i : Nat, i ≤ 256 ∧ t = .int .i64 i ∧ Hid (Arr wr (w.heap.size + 1) (dotM i)) ∧ Hid (Arr wr w.heap.size (fun _ => false)) ∧ Hid (Moved B r s st v (p + 1) w wr)) (fun t _ => 256 - (intOf t).toNat)
  case atStart => exact ⟨0, by omega, rfl, D1, D0, M4⟩
  case round =>
    clear D1 D0 M4 d1 ff1
    obtain ⟨i, hi, rfl, D1, D0, M4⟩ := hrel
    have i0 : (0 : Int) ≤ (i : Int) := by omega
    by_cases hlt : i < 256
    · have i1 : (i : Int) < 256 := by omega
      have kc := D1.out.cell hlt
      have kf := D1.out.froz i
      have hl1 := D1.out.lt
      obtain ⟨b, hb⟩ : ∃ b, b = ((i : Int) != 10) := ⟨_, rfl⟩
      have E1 := Lib.hid ((D1.out.set i b).congr (m' := dotM (i + 1)) (fun j _ => by
        unfold dotM
        by_cases e : j = i
        · subst e
          have : b = (j != 10) := by
            rw [hb, Bool.eq_iff_iff]
            simp
            omega
          rw [if_pos rfl, this]
          simp
        · rw [if_neg e]
          have : decide (j < i + 1) = decide (j < i) := by simp; omega
          rw [this]))
      have E0 := Lib.hid (D0.out.far (r := w.heap.size + 1) (j := i) (x := .bool b) (by omega))
      have M5 := Lib.hid (M4.out.own (fr_set (G := w.heap.size + 1) (j := i) (x := .bool b)) (by omega) hr HV.out)
      have HB := Lib.hid hb
      clear D1 D0 M4
      go_wp2
      rw [← HB.out]
      go_roundw
      case rel => exact ⟨i + 1, by omega, by go_num, E1, E0, M5⟩
      case measure => simp [intOf]; omega
    · obtain rfl : i = 256 := by omega
      have SA := Lib.hid (size_arr (dotM 256))
      have OS := Lib.hid (show (arrC fun _ => false).size = (arrC (dotM 256)).size from by rw [arrC_size, arrC_size])
      go_wp2_with (first | (refine wpList_load_row rfl 110 _ rfl (w.heap.size + 1) rfl 110 (arrC (dotM 256)) (0, 0) _ D1.out und110 rfl SA.out ?_) | (refine wpList_store_row rfl 110 _ _ rfl w.heap.size (arrC (dotM 256)) rfl rfl 110 (arrC fun _ => false) D0.out SA.out OS.out (arrC_one _) ?_))
      have M6 := M4.out.own (fr_row (G := w.heap.size) (m := dotM 256)) (Nat.le_refl _) hr HV.out
      exact bodyPost_ret (v := .tuple #[.agg (arrC (dotM 256)), .bool true]) (results56 _ _ w.heap.size _ _ rfl rfl (D0.out.row _)) rfl ⟨M6, _, true, rfl, arrC_congr (fun i hi => by unfold dotM; simp [hi]), rfl⟩
end Go.Proofs.Ytldcbkememonaaa
