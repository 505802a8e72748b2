/-
  The walk of applies.
-/
import Derived.Test.YticpldjcmhpjoaaV9
import Derived.Deep.RegionHeld3
namespace Go.Proofs.Yticpldjcmhpjoaa
open Go.RowKit
set_option linter.unusedVariables false
set_option linter.unusedSimpArgs false

/-- what applies leaves -/
def AppP (P : Nat → Prop) (mb n : Nat) (g : ByteArray → Option (List UInt8)) (w : World) (e : Ending) (w' : World) : Prop :=
  e = .returned (.tuple #[]) ∧ Turn (fun k => k = mb) w w' ∧ FilesV (fun k => P k ∨ w.heap.size ≤ k) w' mb n g
theorem doesG0 (g : ByteArray → Option (List UInt8)) (name : ByteArray) (i : Nat) (data : List UInt8) : doesG g ⟨0, name, i, data⟩ = fun t => if t = name then some data else g t := by
  funext t
  simp [doesG]
theorem doesG1 (g : ByteArray → Option (List UInt8)) (name : ByteArray) (i : Nat) (data b : List UInt8) (hb : g name = some b) : doesG g ⟨1, name, i, data⟩ = fun t => if t = name then some (over b i data) else g t := by
  funext t
  simp [doesG, hb]
theorem doesG2 (g : ByteArray → Option (List UInt8)) (name : ByteArray) (i : Nat) (data : List UInt8) : doesG g ⟨2, name, i, data⟩ = fun t => if t = name then none else g t := by
  funext t
  simp [doesG]
set_option maxRecDepth 20000 in
set_option maxHeartbeats 1000000 in
theorem applies0 {P : Nat → Prop} (fb mb n : Nat) (g : ByteArray → Option (List UInt8)) (c : Chg) (dv : Value) (w : World) (hk : c.kind = 0) (h2 : w.cell? ⟨fb, 2, none⟩ = some (.map (some mb)))
    (hF : FilesV P w mb n g) (hn : n < maxLen) (hs : c.name.size ≤ maxLen) (hd : BytesIn P w dv c.data) (hl : c.data.length ≤ 140737488355328) :
    Calls Try.prog 45 #[.pointer (some ⟨fb, 0, none⟩), c.val dv] w (AppP P mb (n + 1) (doesG g c) w) := by
  obtain ⟨kind, name, at_, data⟩ := c
  obtain rfl : kind = 0 := hk
  unfold Chg.val
  rw [doesG0]
  simp only at hs hd hl ⊢
  obtain ⟨W1, hW1⟩ : ∃ W1, W1 = w.alloc (.cells #[.int .i64 0, .string name, .int .i64 (at_ : Int), dv] 68) := ⟨_, rfl⟩
  have hg1 : Grow w W1 := by rw [hW1]; exact (Grow.refl w).alloc _
  have hb1 := heap_alloc_new w (.cells #[.int .i64 0, .string name, .int .i64 (at_ : Int), dv] 68)
  rw [← hW1] at hb1
  have d1 : W1.cell? ⟨w.heap.size, 1, none⟩ = some (.string name) := by simp [World.cell?, hb1]
  have d3 : W1.cell? ⟨w.heap.size, 3, none⟩ = some dv := by simp [World.cell?, hb1]
  have f2 : W1.cell? ⟨fb, 2, none⟩ = some (.map (some mb)) := (Below.cell hg1 (p := ⟨fb, 2, none⟩) (lt_of_cell h2)).trans h2
  have hmf : mb ≠ fb := by
    rintro rfl
    obtain ⟨es, cl, hb⟩ := hF.choose_spec.1.blk
    simp [World.cell?, hb] at h2
  have hmw := hF.lt
  have KA := Lib.hid (show ∀ W, Grow W1 W → W.cell? ⟨w.heap.size, 1, none⟩ = some (.string name) ∧ W.cell? ⟨w.heap.size, 3, none⟩ = some dv ∧ W.cell? ⟨fb, 2, none⟩ = some (.map (some mb)) from fun W hW =>
    ⟨(Below.cell hW (p := ⟨w.heap.size, 1, none⟩) (lt_of_cell d1)).trans d1, (Below.cell hW (p := ⟨w.heap.size, 3, none⟩) (lt_of_cell d3)).trans d3, (Below.cell hW (p := ⟨fb, 2, none⟩) (lt_of_cell f2)).trans f2⟩)
  have KB := Lib.hid (show ∀ W W', Grow W1 W → Turn (fun k => k = mb) W W' → W'.cell? ⟨w.heap.size, 1, none⟩ = some (.string name) ∧ W'.cell? ⟨w.heap.size, 3, none⟩ = some dv ∧ W'.cell? ⟨fb, 2, none⟩ = some (.map (some mb)) from fun W W' hW hT =>
    ⟨hT.cell (KA.out W hW).1 (by simp; omega), hT.cell (KA.out W hW).2.1 (by simp; omega), hT.cell (KA.out W hW).2.2 (by simp; omega)⟩)
  have CL := Lib.hid (show ∀ W, Grow W1 W → Calls Try.prog 34 #[dv] W fun e w' => ∃ v', e = .returned v' ∧ Hid (BytesIn (fun k => P k ∨ w.heap.size ≤ k) w' v' data) ∧ Below W.heap.size W w' from fun W hW => by
    refine (clone_any dv data W ((hd.turn (Turn.of_grow (P := P) hg1)).turn (Turn.of_grow (P := P) hW)) hl).mono ?_
    rintro e w' ⟨v', rfl, h3, h4⟩
    exact ⟨v', rfl, Lib.hid (h3.bytes.mono (fun k _ hk => .inr (by have := Grow.size hW; have := Grow.size hg1; omega))), h4⟩)
  have FV := Lib.hid (show ∀ W, Grow W1 W → FilesV (fun k => P k ∨ w.heap.size ≤ k) W mb n g from fun W hW =>
    ((hF.turn (Turn.of_grow (P := fun _ => False) (hg1.trans hW)) (fun h => h)).mono (fun k _ hk => .inl hk)))
  have HG := Lib.hid hg1
  have HN := Lib.hid hn
  have HS := Lib.hid hs
  clear hd hF hg1 hb1 hmw hmf hs hn hl h2
  have HW := Lib.hid hW1
  clear hW1
  go_enter Try.func45, Try.ntmps45
  go_wp2
  rw [← HW.out]
  go_region_held3 (fun W => W.cell? ⟨w.heap.size, 1, none⟩ = some (.string name) ∧ W.cell? ⟨w.heap.size, 3, none⟩ = some dv ∧ W.cell? ⟨fb, 2, none⟩ = some (.map (some mb)))
    (first
      | exact KA.out _ (Grow.refl _).drew
      | exact KB.out _ _ ((Grow.refl _).drew.trans b3) t4
      | exact KA.out _ ((Grow.refl _).drew.trans b3))
    ((go_at_call 34; refine (CL.out _ (Grow.refl _).drew).mono ?_; rintro e w3 ⟨v3, rfl, hv3, b3⟩; obtain ⟨w4, r4, hF4, t4⟩ := (FV.out _ ((Grow.refl _).drew.trans b3)).store name HS.out v3 data hv3.out HN.out; have HF4 := Lib.hid hF4; clear hF4))
  all_goals
    go_wp2
    go_end0
    refine ⟨rfl, (Turn.of_grow ((HG.out.trans (Grow.refl _).drew).trans b3)).trans t4 (fun _ _ h => h), ?_⟩
    exact HF4.out
theorem step_copy_run {P : Program} {w : World} {ops : Array Oper} {o : Oper} {a : Act} {K : Act → World → Prop} {Q : Exit → Act → World → Prop} {E : Prop} (hgd : o.guard = none) (d s : Operand) (dT sT : TypeId)
    (ho : o.op = .call { callee := .builtin .copy, args := #[d, s], argTypes := #[dT, sT] }) (x y v : Value) (w' : World) (hx : a.eval d = x) (hy : a.eval s = y)
    (hrun : ∀ ty, (Builtin.copy_ #[dT, sT] ty #[x, y]).run P w = .ok v w') (h : K (a.put o.dst v) w') : if Region.wanted o (yielded ops a.tmps) = true then Oper.wp P o a w K Q else E := by
  have hw : Region.wanted o (yielded ops a.tmps) = true := by simp [Region.wanted, hgd]
  rw [if_pos hw]
  unfold Oper.wp
  simp [execOp, ho, resolve, invoke, builtin, hx, hy, hrun, Result.andThen]
  exact h
theorem run_copy_zero {P : Program} (w : World) (dT sT ty elem : TypeId) (hu : P.underlying dT = some (.slice elem)) (hs : (P.info? elem).map (·.size) = some 1) (p q : Option Addr) (dl dc sl sc : Nat) (h0 : Nat.min sl dl = 0) :
    (Builtin.copy_ #[dT, sT] ty #[.slice p dl dc, .slice q sl sc]).run P w = .ok (goInt 0) w := by
  cases hq : P.info? elem with
  | none => simp [hq] at hs
  | some i =>
    have hi : i.size = 1 := by simpa [hq] using hs
    have h0' : min sl dl = 0 := h0
    cases p <;> cases q <;> simp [Builtin.copy_, run_underlying hu, Builtin.lenOf, Builtin.firstCells, sizeOf, typeInfo, hq, hi, h0', loadCells, loadCellsFrom, storeCells]
theorem over_nil (b : List UInt8) (i : Nat) : over b i [] = b := by
  unfold over
  simp
theorem u8s_append (a b : List UInt8) : u8s (a ++ b) = u8s a ++ u8s b := by simp [u8s]
/-- the copy into a clone -/
theorem run_copyL {P : Nat → Prop} {B g c : Nat} {w : World} {b data : List UInt8} {dv : Value} (h : OwnL B w (.slice (some ⟨g, 0, none⟩) b.length c) b) (hd : BytesIn P w dv data) (i : Nat) (hi : i + data.length ≤ b.length) (dc : Nat) :
    ∃ w', (∀ ty, (Builtin.copy_ #[22, 22] ty #[.slice (if c = i then some ⟨g, 0, none⟩ else some ⟨g, i, none⟩) (b.length - i) dc, dv]).run Try.prog w = .ok (goInt data.length) w') ∧ OwnL B w' (.slice (some ⟨g, 0, none⟩) b.length c) (over b i data) ∧ Below B w w' := by
  have hz : (Try.prog.info? 5).map (·.size) = some 1 := by kernel_rfl
  rcases Nat.eq_zero_or_pos data.length with h0 | h0
  · obtain rfl := List.eq_nil_of_length_eq_zero h0
    obtain ⟨a, cd, rfl⟩ := hd.shape
    exact ⟨w, fun ty => run_copy_zero w 22 22 ty 5 Try.underlying22 hz _ _ _ _ _ _ (by simp [Nat.min_def]), by rw [over_nil]; exact h, Below.refl _ _⟩
  · rcases hd with ⟨_, rfl⟩ | ⟨g2, c2, rfl, h2, _⟩
    · simp at h0
    · have hown := h
      rcases h.2 with ⟨hv, _⟩ | ⟨g', cap, cur, hv, hB, hg, hnc, hcm, hcs, htk⟩
      · cases hv
      · injection hv with hv1 hv2 hv3
        injection hv1 with hv1
        injection hv1 with hv1 _ _
        subst hv1
        subst hv3
        simp only [Nat.mul_one] at hcs htk
        rw [if_neg (by omega)]
        have hrun := fun ty => run_copy_row (P := Try.prog) w 22 22 ty 5 g i (b.length - i) dc ⟨g2, 0, none⟩ data.length c2 cur 5 (u8s data) Try.underlying22 hz hg (by rw [u8s_len]; simp [Nat.min_def]; omega) (fun j v hj => by
          rw [u8s_get] at hj
          obtain ⟨x, hx, rfl⟩ := Option.map_eq_some_iff.1 hj
          rw [add_plain, Nat.zero_add]
          exact h2 j x hx) (by rw [u8s_len]; omega) (u8s_one _)
        rw [u8s_len] at hrun
        refine ⟨_, hrun, ?_, ⟨rfl, rfl, rfl, by simp [World.setRow], fun k hk => setRow_other w g k _ (by omega)⟩⟩
        unfold OwnL
        rw [over_len _ _ _ hi]
        refine ⟨by rw [u8s_len, over_len _ _ _ hi, Nat.mul_one], .inr ⟨g, c, _, rfl, hB, setRow_heap w g cur _ 5 _ hg, hnc, hcm, ?_, ?_⟩⟩
        · simp only [List.size_toArray, List.length_append, List.length_take, List.length_drop, u8s_len, Array.length_toList, Nat.mul_one]
          omega
        · simp only [Nat.mul_one]
          unfold over
          rw [u8s_append, u8s_append]
          obtain ⟨X, hX⟩ : ∃ X, X = cur.toList := ⟨_, rfl⟩
          have hXl : X.length = c := by rw [hX]; simpa using hcs
          rw [← hX] at htk ⊢
          have e1 : X.take i = u8s (b.take i) := by
            rw [show u8s (b.take i) = (u8s b).take i from by simp [u8s], ← htk, List.take_take, Nat.min_eq_left (by omega)]
          have e2 : (X.drop (i + data.length)).take (b.length - (i + data.length)) = u8s (b.drop (i + data.length)) := by
            rw [show u8s (b.drop (i + data.length)) = (u8s b).drop (i + data.length) from by simp [u8s], ← htk, List.drop_take]
          rw [List.take_append, List.take_of_length_le (by rw [List.length_append, List.length_take, u8s_len]; omega), List.length_append, List.length_take, u8s_len, Nat.min_eq_left (by omega), e2, e1]
end Go.Proofs.Yticpldjcmhpjoaa
