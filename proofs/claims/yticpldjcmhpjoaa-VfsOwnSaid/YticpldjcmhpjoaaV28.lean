/-
  append of bytes; roomy.
-/
import Derived.Test.YticpldjcmhpjoaaAppS
namespace Go.Proofs.Yticpldjcmhpjoaa
open Go.RowKit
set_option linter.unusedVariables false
set_option linter.unusedSimpArgs false

theorem step_append_run {P : Program} {w : World} {ops : Array Oper} {o : Oper} {a : Act} {K : Act → World → Prop} {Q : Exit → Act → World → Prop} {E : Prop} (hgd : Region.wanted o (yielded ops a.tmps) = true) (d s : Operand) (dT sT : TypeId)
    (ho : o.op = .call { callee := .builtin .append, args := #[d, s], argTypes := #[dT, sT] }) (x y v : Value) (w' : World) (hx : a.eval d = x) (hy : a.eval s = y)
    (hrun : ∀ ty, (Builtin.append_ #[dT, sT] ty #[x, y]).run P w = .ok v w') (h : K (a.put o.dst v) w') : if Region.wanted o (yielded ops a.tmps) = true then Oper.wp P o a w K Q else E := by
  rw [if_pos hgd]
  unfold Oper.wp
  simp [execOp, ho, resolve, invoke, builtin, hx, hy, hrun, Result.andThen]
  exact h
theorem wpList_append_run {P : Program} (w : World) {ops : Array Oper} {rest : List Oper} {o : Oper} {a : Act} {Q : Exit → Act → World → Prop} (hgd : o.guard = none) (d s : Operand) (dT sT : TypeId)
    (ho : o.op = .call { callee := .builtin .append, args := #[d, s], argTypes := #[dT, sT] }) (x y v : Value) (w' : World) (hx : a.eval d = x) (hy : a.eval s = y)
    (hrun : ∀ ty, (Builtin.append_ #[dT, sT] ty #[x, y]).run P w = .ok v w') (h : wpList P ops Q rest (a.put o.dst v) w') : wpList P ops Q (o :: rest) a w :=
  wpList_plain hgd fun K hK => by
    unfold Oper.wp
    simp [execOp, ho, resolve, invoke, builtin, hx, hy, hrun, Result.andThen]
    exact hK _ _ h
theorem src_of {w : World} {x : Value} {l : List UInt8} (h : HoldsAt w x l) : Src Try.prog 1 22 x l.length (u8s l) w := by
  obtain ⟨p, c, b, o, rfl, _, h3, h4⟩ := h
  cases p with
  | none =>
    cases l with
    | nil => exact Src.ofNil _ Try.underlying22 c
    | cons y r => have := h3 (by simp); cases this
  | some a =>
    refine Src.ofSlice _ Try.underlying22 a l.length c (u8s l) (by rw [u8s_len, Nat.mul_one]) (fun j u hu => ?_) (u8s_one l)
    have hj : j < l.length := by have := (List.getElem?_eq_some_iff.1 hu).1; rwa [u8s_len] at this
    have e := h3 (by omega)
    injection e with e
    subst e
    rw [u8s_get, List.getElem?_eq_getElem hj] at hu
    injection hu with hu
    subst hu
    rw [add_plain]
    exact h4 j _ (List.getElem?_eq_getElem hj)
theorem app_bytes {w : World} {B : Nat} (hB : B ≤ w.heap.size) {v x : Value} {l l2 : List UInt8} (h : OwnL B w v l) (hx : HoldsAt w x l2) (hs : l.length + l2.length ≤ 140737488355328) :
    ∃ v' w', (∀ ty, (Builtin.append_ #[22, 22] ty #[v, x]).run Try.prog w = .ok v' w') ∧ OwnL B w' v' (l ++ l2) ∧ w.grownBy w' v.ownBlock ∧ (∀ g, v'.ownBlock = some g → v.ownBlock = some g ∨ w.heap.size ≤ g) := by
  obtain ⟨i0, hi0, hz0, hz1, hz2⟩ := info_parts (show (Try.prog.info? 5).map (fun i => (i.zero, i.size, i.bytes)) = some (some (.int .u8 0), 1, 1) by kernel_rfl)
  have key := fun ty => run_append_srcs (P := Try.prog) w B 22 22 ty 5 i0 (.int .u8 0) 1 Try.underlying22 hi0 hz0 hz1 hz2 rfl v l.length (u8s l) h x l2.length (u8s l2) (src_of hx) (by unfold maxLen; omega) (by omega) hB
  obtain ⟨v', w', hr, h2, h3, h4⟩ := key 0
  refine ⟨v', w', fun ty => ?_, ?_, h3, h4⟩
  · exact hr
  · unfold OwnL
    rw [List.length_append, u8s_append]
    exact h2
theorem lit_at (W : World) (l : List UInt8) (C : Array Value) (hC : C.toList = u8s l) (fr : Nat × Nat) : HoldsAt (W.alloc (.cells C 5 fr)) (.slice (some ⟨W.heap.size, 0, none⟩) l.length l.length) l := by
  have hb := heap_alloc_new W (.cells C 5 fr)
  refine ⟨_, _, W.heap.size, 0, rfl, Nat.le_refl _, fun _ => rfl, fun i x hx => ?_⟩
  have : C[i]? = some (.int .u8 (x.toNat : Int)) := by rw [← Array.getElem?_toList, hC, u8s_get, hx]; rfl
  unfold World.cell?
  rw [hb, Nat.zero_add]
  simpa using this
theorem own_nil (W : World) : OwnL W.heap.size (W.alloc (.cells #[] 5)) (.slice (some ⟨W.heap.size, 0, none⟩) 0 0) [] := ownsRow_empty0 W W.heap.size 5 1 (Nat.le_refl _)
theorem OwnL.grow {B : Nat} {w w' : World} {v : Value} {l : List UInt8} (h : OwnL B w v l) (hg : Grow w w') : OwnL B w' v l := own_grow h hg
theorem OwnL.shape {B : Nat} {w : World} {v : Value} {l : List UInt8} (h : OwnL B w v l) : ∃ a c, v = .slice a l.length c ∧ l.length ≤ c ∧ (0 < l.length → ∃ g, a = some ⟨g, 0, none⟩ ∧ B ≤ g) := by
  rcases h.2 with ⟨rfl, h0⟩ | ⟨g, cap, cur, rfl, hb, _, hnc, _⟩
  · exact ⟨none, 0, by rw [h0], by omega, fun h => by omega⟩
  · exact ⟨_, cap, rfl, hnc, fun _ => ⟨g, rfl, hb⟩⟩
theorem grownB {w a b : World} {B : Nat} {q : Option Nat} (h : Below B w a) (g : a.grownBy b q) (hB : B ≤ a.heap.size) (hq : ∀ k, q = some k → B ≤ k) : Below B w b :=
  ⟨g.os.trans h.os, g.tape.trans h.tape, g.output.trans h.output, Nat.le_trans h.size g.size, fun k hk => (g.block k (by omega) (fun e => by have := hq k e.symm; omega)).trans (h.block k hk)⟩
theorem OwnL.own {B : Nat} {w : World} {v : Value} {l : List UInt8} (h : OwnL B w v l) : ∀ k, v.ownBlock = some k → B ≤ k := fun k hk => by
  rcases h.2 with ⟨rfl, h0⟩ | ⟨g, cap, cur, rfl, hb, _⟩
  · cases hk
  · injection hk with hk
    subst hk
    exact hb
set_option maxHeartbeats 1000000 in
set_option maxRecDepth 20000 in
theorem roomy_any (v : Value) (l : List UInt8) (w : World) (h : HoldsAt w v l) (hl : l.length ≤ 1073741824) :
    Calls Try.prog 9 #[v] w fun e w' => ∃ g c, e = .returned (.slice (some ⟨g, 0, none⟩) (l.length + 1) c) ∧ OwnL w.heap.size w' (.slice (some ⟨g, 0, none⟩) (l.length + 1) c) (l ++ [171]) ∧ Grow w w' := by
  obtain ⟨p, c, b, o, rfl, hlc, hlx⟩ := h
  have h : HoldsAt w (.slice p l.length c) l := ⟨p, c, b, o, rfl, hlc, by assumption⟩
  obtain ⟨v1, w1, r1, o1, g1, q1⟩ := app_bytes (w := w.alloc (.cells #[] 5)) (B := w.heap.size) (by simp) (own_nil w) (h.grow ((Grow.refl w).alloc _)) (by simp; omega)
  rw [List.nil_append] at o1
  have b1 : Grow w w1 := grownB ((Grow.refl w).alloc _) g1 (by simp) (own_nil w).own
  obtain ⟨v2, w2, r2, o2, g2, q2⟩ := app_bytes (w := w1.alloc (.cells #[.int .u8 171] 5)) (B := w.heap.size) (by have := Grow.size b1; simp; omega) (o1.grow ((Grow.refl w1).alloc _)) (lit_at w1 [171] #[.int .u8 171] rfl (0, 0)) (by simp; omega)
  rw [show ([171] : List UInt8).length = 1 from rfl] at r2
  have b2 : Grow w w2 := grownB (b1.alloc _) g2 (by have := Grow.size b1; simp; omega) o1.own
  obtain ⟨v3, w3, r3, o3, g3, q3⟩ := app_bytes (w := w2.alloc (.cells #[.int .u8 171] 5)) (B := w.heap.size) (by have := Grow.size b2; simp; omega) (o2.grow ((Grow.refl w2).alloc _)) (lit_at w2 [171] #[.int .u8 171] rfl (0, 0)) (by simp; omega)
  rw [show ([171] : List UInt8).length = 1 from rfl] at r3
  have b3 : Grow w w3 := grownB (b2.alloc _) g3 (by have := Grow.size b2; simp; omega) o2.own
  obtain ⟨a3, c3, e3, hc3, hg3⟩ := o3.shape
  have hl3 : (l ++ [171] ++ [171] : List UInt8).length = l.length + 2 := by simp
  obtain ⟨g, hg, hgB⟩ := hg3 (by omega)
  rw [hl3] at e3 hc3
  have FIN := Lib.hid (show OwnL w.heap.size w3 (.slice (some ⟨g, 0, none⟩) (l.length + 1) c3) (l ++ [171]) from by
    have o3' := o3
    unfold OwnL at o3'
    rw [hl3] at o3'
    rcases o3'.2 with ⟨h1, h2⟩ | ⟨g', cap, cur, h1, h2, h3, h4, h5, h6, h7⟩
    · omega
    · rw [e3, hg] at h1
      injection h1 with e1 _ e2
      injection e1 with e1
      injection e1 with e1
      subst e1
      subst e2
      refine ⟨by simp [u8s_len], .inr ⟨g, c3, cur, by simp, h2, h3, by simp; omega, h5, h6, ?_⟩⟩
      simp only [Nat.mul_one] at h7 ⊢
      have := congrArg (List.take (l ++ [171]).length) h7
      rw [List.take_take, Nat.min_eq_left (by simp), u8s_append] at this
      rw [this, ← u8s_len (l ++ [171]), List.take_left])
  obtain ⟨n, hn⟩ : ∃ n, n = l.length := ⟨_, rfl⟩
  subst hg
  rw [← hn] at e3 r1 FIN hc3 hl ⊢
  subst e3
  obtain ⟨a1, k1, hv1, hx1⟩ := o1.shape
  obtain ⟨a2, k2, hv2, hx2⟩ := o2.shape
  rw [← hn] at hv1
  rw [List.length_append, ← hn, List.length_singleton] at hv2
  subst hv1
  subst hv2
  have R1 := Lib.hid r1
  have R2 := Lib.hid r2
  have R3 := Lib.hid r3
  have B3 := Lib.hid b3
  clear h r1 r2 r3 o1 o2 o3 g1 g2 g3 b1 b2 b3 hn hg3 hl3 q1 q2 q3 hx1 hx2 hlc hlx hgB
  go_enter Try.func9, Try.ntmps9
  go_wp2_with (at_builtin; refine wpList_append_run _ (by rfl) _ _ _ _ (by rfl) _ _ _ w1 (by rfl) (by rfl) R1.out ?_; clear R1; go_wp2_with (at_builtin; refine wpList_append_run _ (by rfl) _ _ _ _ (by rfl) _ _ _ w2 (by rfl) (by rfl) R2.out ?_; clear R2; go_wp2_with (at_builtin; refine wpList_append_run _ (by rfl) _ _ _ _ (by rfl) _ _ _ w3 (by rfl) (by rfl) R3.out ?_; clear R3)))
  go_ret
  exact ⟨g, c3, rfl, FIN.out, B3.out⟩
end Go.Proofs.Yticpldjcmhpjoaa
