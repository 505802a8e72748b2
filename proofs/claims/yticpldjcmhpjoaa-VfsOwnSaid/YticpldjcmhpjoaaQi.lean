/-
  append of bytes; roomy. / The walks of stands and spoil. / An FS stands where its own blocks stand.
-/
import Derived.Test.YticpldjcmhpjoaaAppS
namespace Go.Proofs.Yticpldjcmhpjoaa
open Go.RowKit
set_option linter.unusedVariables false
set_option linter.unusedSimpArgs false

theorem step_append_run {P : Program} {w : World} {ops : Array Oper} {o : Oper} {a : Act} {K : Act → World → Prop} {Q : Exit → Act → World → Prop} {E : Prop} (hgd : Region.wanted o (yielded ops a.tmps) = true) (d s : Operand) (dT sT : TypeId)
    (ho : o.op = .call { callee := .builtin .append, args := #[d, s], argTypes := #[dT, sT] }) (x y v : Value) (w' : World) (hx : a.eval d = x) (hy : a.eval s = y)
    (hrun : ∀ ty, (Builtin.append_ #[dT, sT] ty #[x, y]).run P w = .ok v w') (h : K (a.put o.dst v) w') : if Region.wanted o (yielded ops a.tmps) = true then Oper.wp P o a w K Q else E := by
  rw [if_pos hgd]
  unfold Oper.wp
  simp [execOp, ho, resolve, invoke, builtin, hx, hy, hrun, Result.andThen]
  exact h
theorem wpList_append_run {P : Program} (w : World) {ops : Array Oper} {rest : List Oper} {o : Oper} {a : Act} {Q : Exit → Act → World → Prop} (hgd : o.guard = none) (d s : Operand) (dT sT : TypeId)
    (ho : o.op = .call { callee := .builtin .append, args := #[d, s], argTypes := #[dT, sT] }) (x y v : Value) (w' : World) (hx : a.eval d = x) (hy : a.eval s = y)
    (hrun : ∀ ty, (Builtin.append_ #[dT, sT] ty #[x, y]).run P w = .ok v w') (h : wpList P ops Q rest (a.put o.dst v) w') : wpList P ops Q (o :: rest) a w :=
  wpList_plain hgd fun K hK => by
    unfold Oper.wp
    simp [execOp, ho, resolve, invoke, builtin, hx, hy, hrun, Result.andThen]
    exact hK _ _ h
theorem src_of {w : World} {x : Value} {l : List UInt8} (h : HoldsAt w x l) : Src Try.prog 1 22 x l.length (u8s l) w := by
  obtain ⟨p, c, b, o, rfl, _, h3, h4⟩ := h
  cases p with
  | none =>
    cases l with
    | nil => exact Src.ofNil _ Try.underlying22 c
    | cons y r => have := h3 (by simp); cases this
  | some a =>
    refine Src.ofSlice _ Try.underlying22 a l.length c (u8s l) (by rw [u8s_len, Nat.mul_one]) (fun j u hu => ?_) (u8s_one l)
    have hj : j < l.length := by have := (List.getElem?_eq_some_iff.1 hu).1; rwa [u8s_len] at this
    have e := h3 (by omega)
    injection e with e
    subst e
    rw [u8s_get, List.getElem?_eq_getElem hj] at hu
    injection hu with hu
    subst hu
    rw [add_plain]
    exact h4 j _ (List.getElem?_eq_getElem hj)
theorem app_bytes {w : World} {B : Nat} (hB : B ≤ w.heap.size) {v x : Value} {l l2 : List UInt8} (h : OwnL B w v l) (hx : HoldsAt w x l2) (hs : l.length + l2.length ≤ 140737488355328) :
    ∃ v' w', (∀ ty, (Builtin.append_ #[22, 22] ty #[v, x]).run Try.prog w = .ok v' w') ∧ OwnL B w' v' (l ++ l2) ∧ w.grownBy w' v.ownBlock ∧ (∀ g, v'.ownBlock = some g → v.ownBlock = some g ∨ w.heap.size ≤ g) := by
  obtain ⟨i0, hi0, hz0, hz1, hz2⟩ := info_parts (show (Try.prog.info? 5).map (fun i => (i.zero, i.size, i.bytes)) = some (some (.int .u8 0), 1, 1) by kernel_rfl)
  have key := fun ty => run_append_srcs (P := Try.prog) w B 22 22 ty 5 i0 (.int .u8 0) 1 Try.underlying22 hi0 hz0 hz1 hz2 rfl v l.length (u8s l) h x l2.length (u8s l2) (src_of hx) (by unfold maxLen; omega) (by omega) hB
  obtain ⟨v', w', hr, h2, h3, h4⟩ := key 0
  refine ⟨v', w', fun ty => ?_, ?_, h3, h4⟩
  · exact hr
  · unfold OwnL
    rw [List.length_append, u8s_append]
    exact h2
theorem lit_at (W : World) (l : List UInt8) (C : Array Value) (hC : C.toList = u8s l) (fr : Nat × Nat) : HoldsAt (W.alloc (.cells C 5 fr)) (.slice (some ⟨W.heap.size, 0, none⟩) l.length l.length) l := by
  have hb := heap_alloc_new W (.cells C 5 fr)
  refine ⟨_, _, W.heap.size, 0, rfl, Nat.le_refl _, fun _ => rfl, fun i x hx => ?_⟩
  have : C[i]? = some (.int .u8 (x.toNat : Int)) := by rw [← Array.getElem?_toList, hC, u8s_get, hx]; rfl
  unfold World.cell?
  rw [hb, Nat.zero_add]
  simpa using this
theorem own_nil (W : World) : OwnL W.heap.size (W.alloc (.cells #[] 5)) (.slice (some ⟨W.heap.size, 0, none⟩) 0 0) [] := ownsRow_empty0 W W.heap.size 5 1 (Nat.le_refl _)
theorem OwnL.grow {B : Nat} {w w' : World} {v : Value} {l : List UInt8} (h : OwnL B w v l) (hg : Grow w w') : OwnL B w' v l := own_grow h hg
theorem OwnL.shape {B : Nat} {w : World} {v : Value} {l : List UInt8} (h : OwnL B w v l) : ∃ a c, v = .slice a l.length c ∧ l.length ≤ c ∧ (0 < l.length → ∃ g, a = some ⟨g, 0, none⟩ ∧ B ≤ g) := by
  rcases h.2 with ⟨rfl, h0⟩ | ⟨g, cap, cur, rfl, hb, _, hnc, _⟩
  · exact ⟨none, 0, by rw [h0], by omega, fun h => by omega⟩
  · exact ⟨_, cap, rfl, hnc, fun _ => ⟨g, rfl, hb⟩⟩
theorem grownB {w a b : World} {B : Nat} {q : Option Nat} (h : Below B w a) (g : a.grownBy b q) (hB : B ≤ a.heap.size) (hq : ∀ k, q = some k → B ≤ k) : Below B w b :=
  ⟨g.os.trans h.os, g.tape.trans h.tape, g.output.trans h.output, Nat.le_trans h.size g.size, fun k hk => (g.block k (by omega) (fun e => by have := hq k e.symm; omega)).trans (h.block k hk)⟩
theorem OwnL.own {B : Nat} {w : World} {v : Value} {l : List UInt8} (h : OwnL B w v l) : ∀ k, v.ownBlock = some k → B ≤ k := fun k hk => by
  rcases h.2 with ⟨rfl, h0⟩ | ⟨g, cap, cur, rfl, hb, _⟩
  · cases hk
  · injection hk with hk
    subst hk
    exact hb
set_option maxHeartbeats 1000000 in
set_option maxRecDepth 20000 in
theorem roomy_any (v : Value) (l : List UInt8) (w : World) (h : HoldsAt w v l) (hl : l.length ≤ 1073741824) :
    Calls Try.prog 9 #[v] w fun e w' => ∃ g c, e = .returned (.slice (some ⟨g, 0, none⟩) (l.length + 1) c) ∧ OwnL w.heap.size w' (.slice (some ⟨g, 0, none⟩) (l.length + 1) c) (l ++ [171]) ∧ Grow w w' := by
  obtain ⟨p, c, b, o, rfl, hlc, hlx⟩ := h
  have h : HoldsAt w (.slice p l.length c) l := ⟨p, c, b, o, rfl, hlc, by assumption⟩
  obtain ⟨v1, w1, r1, o1, g1, q1⟩ := app_bytes (w := w.alloc (.cells #[] 5)) (B := w.heap.size) (by simp) (own_nil w) (h.grow ((Grow.refl w).alloc _)) (by simp; omega)
  rw [List.nil_append] at o1
  have b1 : Grow w w1 := grownB ((Grow.refl w).alloc _) g1 (by simp) (own_nil w).own
  obtain ⟨v2, w2, r2, o2, g2, q2⟩ := app_bytes (w := w1.alloc (.cells #[.int .u8 171] 5)) (B := w.heap.size) (by have := Grow.size b1; simp; omega) (o1.grow ((Grow.refl w1).alloc _)) (lit_at w1 [171] #[.int .u8 171] rfl (0, 0)) (by simp; omega)
  rw [show ([171] : List UInt8).length = 1 from rfl] at r2
  have b2 : Grow w w2 := grownB (b1.alloc _) g2 (by have := Grow.size b1; simp; omega) o1.own
  obtain ⟨v3, w3, r3, o3, g3, q3⟩ := app_bytes (w := w2.alloc (.cells #[.int .u8 171] 5)) (B := w.heap.size) (by have := Grow.size b2; simp; omega) (o2.grow ((Grow.refl w2).alloc _)) (lit_at w2 [171] #[.int .u8 171] rfl (0, 0)) (by simp; omega)
  rw [show ([171] : List UInt8).length = 1 from rfl] at r3
  have b3 : Grow w w3 := grownB (b2.alloc _) g3 (by have := Grow.size b2; simp; omega) o2.own
  obtain ⟨a3, c3, e3, hc3, hg3⟩ := o3.shape
  have hl3 : (l ++ [171] ++ [171] : List UInt8).length = l.length + 2 := by simp
  obtain ⟨g, hg, hgB⟩ := hg3 (by omega)
  rw [hl3] at e3 hc3
  have FIN := Lib.hid (show OwnL w.heap.size w3 (.slice (some ⟨g, 0, none⟩) (l.length + 1) c3) (l ++ [171]) from by
    have o3' := o3
    unfold OwnL at o3'
    rw [hl3] at o3'
    rcases o3'.2 with ⟨h1, h2⟩ | ⟨g', cap, cur, h1, h2, h3, h4, h5, h6, h7⟩
    · omega
    · rw [e3, hg] at h1
      injection h1 with e1 _ e2
      injection e1 with e1
      injection e1 with e1
      subst e1
      subst e2
      refine ⟨by simp [u8s_len], .inr ⟨g, c3, cur, by simp, h2, h3, by simp; omega, h5, h6, ?_⟩⟩
      simp only [Nat.mul_one] at h7 ⊢
      have := congrArg (List.take (l ++ [171]).length) h7
      rw [List.take_take, Nat.min_eq_left (by simp), u8s_append] at this
      rw [this, ← u8s_len (l ++ [171]), List.take_left])
  obtain ⟨n, hn⟩ : ∃ n, n = l.length := ⟨_, rfl⟩
  subst hg
  rw [← hn] at e3 r1 FIN hc3 hl ⊢
  subst e3
  obtain ⟨a1, k1, hv1, hx1⟩ := o1.shape
  obtain ⟨a2, k2, hv2, hx2⟩ := o2.shape
  rw [← hn] at hv1
  rw [List.length_append, ← hn, List.length_singleton] at hv2
  subst hv1
  subst hv2
  have R1 := Lib.hid r1
  have R2 := Lib.hid r2
  have R3 := Lib.hid r3
  have B3 := Lib.hid b3
  clear h r1 r2 r3 o1 o2 o3 g1 g2 g3 b1 b2 b3 hn hg3 hl3 q1 q2 q3 hx1 hx2 hlc hlx hgB
  go_enter Try.func9, Try.ntmps9
  go_wp2_with (at_builtin; refine wpList_append_run _ (by rfl) _ _ _ _ (by rfl) _ _ _ w1 (by rfl) (by rfl) R1.out ?_; clear R1; go_wp2_with (at_builtin; refine wpList_append_run _ (by rfl) _ _ _ _ (by rfl) _ _ _ w2 (by rfl) (by rfl) R2.out ?_; clear R2; go_wp2_with (at_builtin; refine wpList_append_run _ (by rfl) _ _ _ _ (by rfl) _ _ _ w3 (by rfl) (by rfl) R3.out ?_; clear R3)))
  go_ret
  exact ⟨g, c3, rfl, FIN.out, B3.out⟩
end Go.Proofs.Yticpldjcmhpjoaa

namespace Go.Proofs.Yticpldjcmhpjoaa
open Go.RowKit
set_option linter.unusedVariables false
set_option linter.unusedSimpArgs false

theorem OwnL.cellAt {B g n c : Nat} {w : World} {l : List UInt8} (h : OwnL B w (.slice (some ⟨g, 0, none⟩) n c) l) (i : Nat) (x : UInt8) (hx : l[i]? = some x) : w.cell? ⟨g, i, none⟩ = some (.int .u8 (x.toNat : Int)) := by
  have hc := h
  rcases h.2 with ⟨e, _⟩ | ⟨g', cap, cur, e, _⟩
  · cases e
  · have hcc := e
    injection e with e1 _ _
    injection e1 with e1
    injection e1 with e1
    subst e1
    have := World.ownsRow.cells (g := g) hc (by rw [hcc]; rfl) i _ (show (u8s l)[i]? = some (.int .u8 (x.toNat : Int)) from by rw [u8s_get, hx]; rfl)
    rw [add_plain, Nat.zero_add] at this
    exact this
set_option maxRecDepth 20000 in
theorem stands_any (g c : Nat) (b : Value) (l : List UInt8) (B : Nat) (w : World) (h : OwnL B w (.slice (some ⟨g, 0, none⟩) (l.length + 1) c) (l ++ [171])) (hb : HoldsAt w b l) (hl : l.length ≤ 1073741824) :
    Calls Try.prog 12 #[.slice (some ⟨g, 0, none⟩) (l.length + 1) c, b] w (OnlyP (.bool true) w) := by
  obtain ⟨q, d, e, u, rfl, hld, hq, hd⟩ := hb
  have hb : HoldsAt w (.slice q l.length d) l := ⟨q, d, e, u, rfl, hld, hq, hd⟩
  obtain ⟨aa, c', e0, hnc, hxx⟩ := h.shape
  injection e0 with ea e1 e2
  subst e2
  clear hxx
  subst ea
  have h0 : HoldsAt w (.slice (some ⟨g, 0, none⟩) l.length c) l := ⟨_, c, g, 0, rfl, by simp at hnc; omega, fun _ => rfl, fun i x hx => by
    rw [Nat.zero_add]
    refine h.cellAt i x ?_
    rw [List.getElem?_append_left (by have := (List.getElem?_eq_some_iff.1 hx).1; exact this)]
    exact hx⟩
  have SM := same_any _ _ l l w h0 hb hl hl
  rw [show decide (l = l) = true from by simp] at SM
  have hx : w.cell? ⟨g, l.length, none⟩ = some (.int .u8 171) := h.cellAt l.length 171 (by simp)
  have hgl := lt_of_cell hx
  have SM := Lib.hid SM
  obtain ⟨n, hn⟩ : ∃ n, n = l.length := ⟨_, rfl⟩
  rw [List.length_append, ← hn, List.length_singleton] at hnc
  rw [← hn] at SM hx hl hld ⊢
  clear h hb h0 hq hd hn e1
  go_enter Try.func12, Try.ntmps12
  go_wp2_with fail
  refine SM.out.mono ?_
  rintro _ w2 ⟨rfl, g2⟩
  have hx2 := (Below.cell g2 (p := ⟨g, n, none⟩) hgl).trans hx
  have G2 := Lib.hid g2
  clear g2
  go_wp2
  go_ret
  exact ⟨rfl, G2.out⟩
theorem OwnL.set {B g n c : Nat} {w : World} {l : List UInt8} (h : OwnL B w (.slice (some ⟨g, 0, none⟩) n c) l) (i : Nat) (x : UInt8) (hi : i < l.length) :
    OwnL B (w.setCell ⟨g, i, none⟩ (.int .u8 (x.toNat : Int))) (.slice (some ⟨g, 0, none⟩) n c) (l.set i x) := by
  rcases h.2 with ⟨e, _⟩ | ⟨g', cap, cur, e, hb, hg, hnc, hcm, hcs, htk⟩
  · cases e
  · have e0 := e
    injection e with e1 e2 e3
    injection e1 with e1
    injection e1 with e1
    subst e1
    unfold OwnL
    rw [List.length_set]
    refine ⟨by simp [u8s], .inr ⟨g, cap, _, e0, hb, Go.heap_setCell_same w g i _ _ _ hg, hnc, hcm, by simpa using hcs, ?_⟩⟩
    simp only [Nat.mul_one] at htk ⊢
    rw [Array.toList_setIfInBounds, List.take_set, htk]
    unfold u8s
    rw [List.map_set]
theorem OwnL.frozen {B g n c : Nat} {w : World} {l : List UInt8} (h : OwnL B w (.slice (some ⟨g, 0, none⟩) n c) l) (i : Nat) : w.frozen? ⟨g, i, none⟩ = false := by
  rcases h.2 with ⟨e, _⟩ | ⟨g', cap, cur, e, hb, hg, _⟩
  · cases e
  · injection e with e1 e2 e3
    injection e1 with e1
    injection e1 with e1
    subst e1
    exact froz_blk hg i
theorem grownBy_set {w a : World} {g i : Nat} {x : Value} {q : Option Nat} (h : w.grownBy a q) (hg : q = some g ∨ w.heap.size ≤ g) : w.grownBy (a.setCell ⟨g, i, none⟩ x) q :=
  ⟨h.os, h.tape, h.output, by have := h.size; simpa using this, fun k hk hq => (heap_setCell_other _ _ _ _ (fun e => by
    simp only at e
    rcases hg with hg | hg
    · exact hq (by rw [hg, e])
    · omega)).trans (h.block k hk hq)⟩
set_option maxRecDepth 20000 in
set_option maxHeartbeats 1000000 in
theorem spoil_any (v : Value) (l : List UInt8) (B : Nat) (w : World) (h : OwnL B w v l) (hB : B ≤ w.heap.size) (hl : l.length ≤ 1073741824) :
    Calls Try.prog 13 #[v] w fun e w' => e = .returned (.tuple #[]) ∧ w.grownBy w' v.ownBlock := by
  obtain ⟨v1, w1, r1, o1, g1, q1⟩ := app_bytes (w := w.alloc (.cells #[.int .u8 99] 5)) (B := B) (by simp; omega) (h.grow ((Grow.refl w).alloc _)) (lit_at w [99] #[.int .u8 99] rfl (0, 0)) (by simp; omega)
  rw [show ([99] : List UInt8).length = 1 from rfl] at r1
  obtain ⟨a1, k1, hv1, hk1, hx1⟩ := o1.shape
  obtain ⟨g, hg, hgB⟩ := hx1 (by simp)
  subst hg
  have hll : (l ++ [99] : List UInt8).length = l.length + 1 := by simp
  rw [hll] at hv1 hk1
  subst hv1
  have gw : w.grownBy w1 v.ownBlock := ⟨g1.os, g1.tape, g1.output, by have := g1.size; simp at this; omega, fun k hk hq => (g1.block k (by simp; omega) hq).trans (Below.heap_alloc _ _ k hk)⟩
  have hgo : v.ownBlock = some g ∨ w.heap.size ≤ g := by
    rcases q1 g rfl with h | h
    · exact .inl h
    · exact .inr (by simp at h; omega)
  obtain ⟨a0, k0, hv0, _⟩ := h.shape
  obtain ⟨q, hq⟩ : ∃ q, q = v.ownBlock := ⟨_, rfl⟩
  rw [← hq] at gw hgo ⊢
  obtain ⟨n, hn⟩ : ∃ n, n = l.length := ⟨_, rfl⟩
  rw [← hn] at hv0 r1 hk1 hl hll o1
  subst hv0
  have R1 := Lib.hid r1
  have H0 := Lib.hid (show ∃ l', l'.length = n + 1 ∧ OwnL B w1 (.slice (some ⟨g, 0, none⟩) (n + 1) k1) l' ∧ w.grownBy w1 q from ⟨_, hll, o1, gw⟩)
  have HGO := Lib.hid hgo
  clear h r1 o1 g1 q1 hx1 gw hgo hq hn hll hgB
  go_enter Try.func13, Try.ntmps13
  go_wp2_with (at_builtin; refine wpList_append_run _ (by rfl) _ _ _ _ (by rfl) _ _ _ w1 (by rfl) (by rfl) R1.out ?_; clear R1)
  go_loopw [3] (fun i wr => ∃ j : Nat, j ≤ n + 1 ∧ i = .int .i64 (j : Int) ∧ Hid (∃ l', l'.length = n + 1 ∧ OwnL B wr (.slice (some ⟨g, 0, none⟩) (n + 1) k1) l' ∧ w.grownBy wr q)) (fun i _ => n + 1 - (intOf i).toNat)
  case atStart => exact ⟨0, by omega, rfl, H0⟩
  case round =>
    obtain ⟨j, hj, rfl, HR⟩ := hrel
    by_cases hlt : j < n + 1
    · obtain ⟨l', hl', o2, g2⟩ := HR.out
      have hc : wr.cell? ⟨g, j, none⟩ = some (.int .u8 (l'[j].toNat : Int)) := o2.cellAt j _ (List.getElem?_eq_getElem (by omega))
      have hf : wr.frozen? ⟨g, j, none⟩ = false := o2.frozen j
      have k1' : (j : Int) < ((n + 1 : Nat) : Int) := by omega
      have HN := Lib.hid (show ∃ l', l'.length = n + 1 ∧ OwnL B (wr.setCell ⟨g, j, none⟩ (.int .u8 98)) (.slice (some ⟨g, 0, none⟩) (n + 1) k1) l' ∧ w.grownBy (wr.setCell ⟨g, j, none⟩ (.int .u8 98)) q from ⟨l'.set j 98, by simpa using hl', o2.set j 98 (by omega), grownBy_set g2 HGO.out⟩)
      obtain ⟨xj, hxj⟩ : ∃ xj : Int, xj = (l'[j].toNat : Int) := ⟨_, rfl⟩
      rw [← hxj] at hc
      clear o2 g2 hl' hxj
      go_wp2
      go_roundw
      case rel => exact ⟨j + 1, by omega, by go_num, HN⟩
      case measure => simp [intOf]; omega
    · have k1' : ¬ (j : Int) < ((n + 1 : Nat) : Int) := by omega
      obtain ⟨l', hl', o2, g2⟩ := HR.out
      have G2 := Lib.hid g2
      clear o2 g2 hl'
      go_wp2
      go_end0
      exact ⟨rfl, G2.out⟩
end Go.Proofs.Yticpldjcmhpjoaa

namespace Go.Proofs.Yticpldjcmhpjoaa
open Go.RowKit
set_option linter.unusedVariables false
set_option linter.unusedSimpArgs false

/-- P's blocks stand -/
def Stand (P : Nat → Prop) (w w' : World) : Prop := ∀ k, P k → k < w.heap.size → w'.heap[k]? = w.heap[k]?
theorem BytesIn.keep {P : Nat → Prop} {w w' : World} {v : Value} {l : List UInt8} (h : BytesIn P w v l) (hs : Stand P w w') : BytesIn P w' v l := by
  rcases h with h | ⟨g, c, h1, h2, h3⟩
  · exact .inl h
  · refine .inr ⟨g, c, h1, fun i x hx => ?_, h3⟩
    have hl : l ≠ [] := by rintro rfl; simp at hx
    have h0 := h2 i x hx
    exact (cell_of_block (a := ⟨g, i, none⟩) (hs g (h3.1 hl) (lt_of_cell h0))).trans h0
theorem FilesV.keep {P : Nat → Prop} {w w' : World} {mb n : Nat} {g : Look} (h : FilesV P w mb n g) (hs : Stand P w w') (hp : P mb) : FilesV P w' mb n g := by
  obtain ⟨f, h1, h2⟩ := h
  refine ⟨f, h1.kept (hs mb hp h1.lt), fun s => ⟨(h2 s).1, fun l hl => ?_⟩⟩
  obtain ⟨v, h3, h4⟩ := (h2 s).2 l hl
  exact ⟨v, h3, h4.keep hs⟩
theorem ChgCs.keep {base : Int} {P : Nat → Prop} {w w' : World} {l : List Chg} {cs : List Value} (h : ChgCs base P w l cs) (hs : Stand P w w') : ChgCs base P w' l cs := by
  induction h with
  | nil => exact .nil
  | cons c l dv cs h1 _ ih => exact .cons c l dv cs (h1.keep hs) ih
theorem FsAt.keep {P : Nat → Prop} {w w' : World} {fb K : Nat} {S : Fs} (h : FsAt P w fb S K) (hs : Stand P w w') : FsAt P w' fb S K := by
  obtain ⟨pb, mb, sb, n, m, cv, cs, h, k⟩ := h
  exact ⟨pb, mb, sb, n, m, cv, cs, ⟨(hs fb h.pf (lt_blk h.hf)).trans h.hf, (hs pb h.pp (lt_blk h.hp)).trans h.hp, h.now.keep hs h.pm, h.was.keep hs h.ps,
    own_kept h.row (fun q e => by obtain ⟨cur, hc⟩ := own_lt h.row e; exact hs q (h.pr q e) (lt_blk hc)), h.chg.keep hs, h.nil, h.ne, h.pf, h.pp, h.pm, h.ps, h.pr⟩, k⟩
theorem FsC.keep {B : Nat} {h0 w w' : World} {fb K : Nat} {D : Doc} {P : Nat → Prop} {q : Option Nat} (h : FsC B h0 w fb K D P) (hB : B ≤ w.heap.size) (g : w.grownBy w' q) (hq : ∀ k, q = some k → ¬ P k ∧ B ≤ k) : FsC B h0 w' fb K D P :=
  ⟨h.fs.keep (fun k hp hk => g.block k hk (fun e => (hq k e.symm).1 hp)), h.lo, fun k hk => Nat.lt_of_lt_of_le (h.hi k hk) g.size, grownB h.gr g hB (fun k e => (hq k e).2), h.good⟩
theorem OwnL.turn {B : Nat} {Q : Nat → Prop} {w w' : World} {v : Value} {l : List UInt8} (h : OwnL B w v l) (t : Turn Q w w') (hq : ∀ k, v.ownBlock = some k → ¬ Q k) : OwnL B w' v l :=
  own_kept h (fun q e => by obtain ⟨cur, hc⟩ := own_lt h e; exact t.block q (lt_blk hc) (hq q e))
theorem OwnL.lt {B : Nat} {w : World} {v : Value} {l : List UInt8} (h : OwnL B w v l) : ∀ k, v.ownBlock = some k → k < w.heap.size := fun k e => by
  obtain ⟨cur, hc⟩ := own_lt h e
  exact lt_blk hc
theorem OwnL.front {B g n c : Nat} {w : World} {l r : List UInt8} (h : OwnL B w (.slice (some ⟨g, 0, none⟩) n c) (l ++ r)) : HoldsAt w (.slice (some ⟨g, 0, none⟩) l.length c) l := by
  obtain ⟨aa, c', e0, hnc, hxx⟩ := h.shape
  injection e0 with ea e1 e2
  refine ⟨_, c, g, 0, rfl, by rw [e2]; simp at hnc; omega, fun _ => rfl, fun i x hx => ?_⟩
  rw [Nat.zero_add]
  refine h.cellAt i x ?_
  rw [List.getElem?_append_left (by have := (List.getElem?_eq_some_iff.1 hx).1; exact this)]
  exact hx
theorem OwnL.at {B : Nat} {w : World} {v : Value} {l : List UInt8} (h : OwnL B w v l) : HoldsAt w v l := h.bytes.at
theorem HoldsAt.below {B : Nat} {w w' : World} {v : Value} {l : List UInt8} (h : HoldsAt w v l) (hw : w.heap.size ≤ B) (hb : Below B w w') : HoldsAt w' v l := by
  obtain ⟨p, c, b, o, h1, h2, h3, h4⟩ := h
  exact ⟨p, c, b, o, h1, h2, h3, fun i x hx => by have := h4 i x hx; have hlt := lt_of_cell this; simp only at hlt; exact (Below.cell hb (p := ⟨b, o + i, none⟩) (by simp only; omega)).trans this⟩
/-- b[k:] -/
theorem HoldsAt.drop {w : World} {p : Option Addr} {n c : Nat} {l : List UInt8} (h : HoldsAt w (.slice p n c) l) (k : Nat) (hk : k ≤ n) :
    (p = none → HoldsAt w (.slice none 0 0) (l.drop k)) ∧ ∀ a, p = some a → HoldsAt w (.slice (if c = k then some a else some (a.add k)) (n - k) (c - k)) (l.drop k) := by
  obtain ⟨p', c', b, o, h1, h2, h3, h4⟩ := h
  injection h1 with e1 e2 e3
  subst e1 e3
  have hlen : (l.drop k).length = n - k := by rw [List.length_drop, ← e2]
  refine ⟨fun hp => ?_, fun a ha => ?_⟩
  · have hl0 : l = [] := by
      cases l with
      | nil => rfl
      | cons x r => have := h3 (by simp); rw [hp] at this; cases this
    subst hl0
    exact ⟨none, 0, 0, 0, by simp, by simp, fun h => absurd h (by simp), fun i x hx => by simp at hx⟩
  · rw [← hlen]
    refine ⟨_, c - k, b, o + k, rfl, by rw [hlen]; omega, fun h0 => ?_, fun i x hx => ?_⟩
    · have h0' : 0 < l.length := by rw [List.length_drop] at h0; omega
      have := h3 h0'
      rw [ha] at this
      injection this with this
      subst this
      rw [if_neg (by rw [List.length_drop] at h0; omega), add_plain]
    · rw [List.getElem?_drop] at hx
      have := h4 _ _ hx
      rw [Nat.add_assoc]
      exact this
end Go.Proofs.Yticpldjcmhpjoaa
