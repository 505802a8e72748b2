/-
  The walks of stands and spoil.
-/
import Derived.Test.YticpldjcmhpjoaaV28
namespace Go.Proofs.Yticpldjcmhpjoaa
open Go.RowKit
set_option linter.unusedVariables false
set_option linter.unusedSimpArgs false

theorem OwnL.cellAt {B g n c : Nat} {w : World} {l : List UInt8} (h : OwnL B w (.slice (some ⟨g, 0, none⟩) n c) l) (i : Nat) (x : UInt8) (hx : l[i]? = some x) : w.cell? ⟨g, i, none⟩ = some (.int .u8 (x.toNat : Int)) := by
  have hc := h
  rcases h.2 with ⟨e, _⟩ | ⟨g', cap, cur, e, _⟩
  · cases e
  · have hcc := e
    injection e with e1 _ _
    injection e1 with e1
    injection e1 with e1
    subst e1
    have := World.ownsRow.cells (g := g) hc (by rw [hcc]; rfl) i _ (show (u8s l)[i]? = some (.int .u8 (x.toNat : Int)) from by rw [u8s_get, hx]; rfl)
    rw [add_plain, Nat.zero_add] at this
    exact this
set_option maxRecDepth 20000 in
theorem stands_any (g c : Nat) (b : Value) (l : List UInt8) (B : Nat) (w : World) (h : OwnL B w (.slice (some ⟨g, 0, none⟩) (l.length + 1) c) (l ++ [171])) (hb : HoldsAt w b l) (hl : l.length ≤ 1073741824) :
    Calls Try.prog 12 #[.slice (some ⟨g, 0, none⟩) (l.length + 1) c, b] w (OnlyP (.bool true) w) := by
  obtain ⟨q, d, e, u, rfl, hld, hq, hd⟩ := hb
  have hb : HoldsAt w (.slice q l.length d) l := ⟨q, d, e, u, rfl, hld, hq, hd⟩
  obtain ⟨aa, c', e0, hnc, hxx⟩ := h.shape
  injection e0 with ea e1 e2
  subst e2
  clear hxx
  subst ea
  have h0 : HoldsAt w (.slice (some ⟨g, 0, none⟩) l.length c) l := ⟨_, c, g, 0, rfl, by simp at hnc; omega, fun _ => rfl, fun i x hx => by
    rw [Nat.zero_add]
    refine h.cellAt i x ?_
    rw [List.getElem?_append_left (by have := (List.getElem?_eq_some_iff.1 hx).1; exact this)]
    exact hx⟩
  have SM := same_any _ _ l l w h0 hb hl hl
  rw [show decide (l = l) = true from by simp] at SM
  have hx : w.cell? ⟨g, l.length, none⟩ = some (.int .u8 171) := h.cellAt l.length 171 (by simp)
  have hgl := lt_of_cell hx
  have SM := Lib.hid SM
  obtain ⟨n, hn⟩ : ∃ n, n = l.length := ⟨_, rfl⟩
  rw [List.length_append, ← hn, List.length_singleton] at hnc
  rw [← hn] at SM hx hl hld ⊢
  clear h hb h0 hq hd hn e1
  go_enter Try.func12, Try.ntmps12
  go_wp2_with fail
  refine SM.out.mono ?_
  rintro _ w2 ⟨rfl, g2⟩
  have hx2 := (Below.cell g2 (p := ⟨g, n, none⟩) hgl).trans hx
  have G2 := Lib.hid g2
  clear g2
  go_wp2
  go_ret
  exact ⟨rfl, G2.out⟩
theorem OwnL.set {B g n c : Nat} {w : World} {l : List UInt8} (h : OwnL B w (.slice (some ⟨g, 0, none⟩) n c) l) (i : Nat) (x : UInt8) (hi : i < l.length) :
    OwnL B (w.setCell ⟨g, i, none⟩ (.int .u8 (x.toNat : Int))) (.slice (some ⟨g, 0, none⟩) n c) (l.set i x) := by
  rcases h.2 with ⟨e, _⟩ | ⟨g', cap, cur, e, hb, hg, hnc, hcm, hcs, htk⟩
  · cases e
  · have e0 := e
    injection e with e1 e2 e3
    injection e1 with e1
    injection e1 with e1
    subst e1
    unfold OwnL
    rw [List.length_set]
    refine ⟨by simp [u8s], .inr ⟨g, cap, _, e0, hb, Go.heap_setCell_same w g i _ _ _ hg, hnc, hcm, by simpa using hcs, ?_⟩⟩
    simp only [Nat.mul_one] at htk ⊢
    rw [Array.toList_setIfInBounds, List.take_set, htk]
    unfold u8s
    rw [List.map_set]
theorem OwnL.frozen {B g n c : Nat} {w : World} {l : List UInt8} (h : OwnL B w (.slice (some ⟨g, 0, none⟩) n c) l) (i : Nat) : w.frozen? ⟨g, i, none⟩ = false := by
  rcases h.2 with ⟨e, _⟩ | ⟨g', cap, cur, e, hb, hg, _⟩
  · cases e
  · injection e with e1 e2 e3
    injection e1 with e1
    injection e1 with e1
    subst e1
    exact froz_blk hg i
theorem grownBy_set {w a : World} {g i : Nat} {x : Value} {q : Option Nat} (h : w.grownBy a q) (hg : q = some g ∨ w.heap.size ≤ g) : w.grownBy (a.setCell ⟨g, i, none⟩ x) q :=
  ⟨h.os, h.tape, h.output, by have := h.size; simpa using this, fun k hk hq => (heap_setCell_other _ _ _ _ (fun e => by
    simp only at e
    rcases hg with hg | hg
    · exact hq (by rw [hg, e])
    · omega)).trans (h.block k hk hq)⟩
set_option maxRecDepth 20000 in
set_option maxHeartbeats 1000000 in
theorem spoil_any (v : Value) (l : List UInt8) (B : Nat) (w : World) (h : OwnL B w v l) (hB : B ≤ w.heap.size) (hl : l.length ≤ 1073741824) :
    Calls Try.prog 13 #[v] w fun e w' => e = .returned (.tuple #[]) ∧ w.grownBy w' v.ownBlock := by
  obtain ⟨v1, w1, r1, o1, g1, q1⟩ := app_bytes (w := w.alloc (.cells #[.int .u8 99] 5)) (B := B) (by simp; omega) (h.grow ((Grow.refl w).alloc _)) (lit_at w [99] #[.int .u8 99] rfl (0, 0)) (by simp; omega)
  rw [show ([99] : List UInt8).length = 1 from rfl] at r1
  obtain ⟨a1, k1, hv1, hk1, hx1⟩ := o1.shape
  obtain ⟨g, hg, hgB⟩ := hx1 (by simp)
  subst hg
  have hll : (l ++ [99] : List UInt8).length = l.length + 1 := by simp
  rw [hll] at hv1 hk1
  subst hv1
  have gw : w.grownBy w1 v.ownBlock := ⟨g1.os, g1.tape, g1.output, by have := g1.size; simp at this; omega, fun k hk hq => (g1.block k (by simp; omega) hq).trans (Below.heap_alloc _ _ k hk)⟩
  have hgo : v.ownBlock = some g ∨ w.heap.size ≤ g := by
    rcases q1 g rfl with h | h
    · exact .inl h
    · exact .inr (by simp at h; omega)
  obtain ⟨a0, k0, hv0, _⟩ := h.shape
  obtain ⟨q, hq⟩ : ∃ q, q = v.ownBlock := ⟨_, rfl⟩
  rw [← hq] at gw hgo ⊢
  obtain ⟨n, hn⟩ : ∃ n, n = l.length := ⟨_, rfl⟩
  rw [← hn] at hv0 r1 hk1 hl hll o1
  subst hv0
  have R1 := Lib.hid r1
  have H0 := Lib.hid (show ∃ l', l'.length = n + 1 ∧ OwnL B w1 (.slice (some ⟨g, 0, none⟩) (n + 1) k1) l' ∧ w.grownBy w1 q from ⟨_, hll, o1, gw⟩)
  have HGO := Lib.hid hgo
  clear h r1 o1 g1 q1 hx1 gw hgo hq hn hll hgB
  go_enter Try.func13, Try.ntmps13
  go_wp2_with (at_builtin; refine wpList_append_run _ (by rfl) _ _ _ _ (by rfl) _ _ _ w1 (by rfl) (by rfl) R1.out ?_; clear R1)
  go_loopw [3] (fun i wr => ∃ j : Nat, j ≤ n + 1 ∧ i = .int .i64 (j : Int) ∧ Hid (∃ l', l'.length = n + 1 ∧ OwnL B wr (.slice (some ⟨g, 0, none⟩) (n + 1) k1) l' ∧ w.grownBy wr q)) (fun i _ => n + 1 - (intOf i).toNat)
  case atStart => exact ⟨0, by omega, rfl, H0⟩
  case round =>
    obtain ⟨j, hj, rfl, HR⟩ := hrel
    by_cases hlt : j < n + 1
    · obtain ⟨l', hl', o2, g2⟩ := HR.out
      have hc : wr.cell? ⟨g, j, none⟩ = some (.int .u8 (l'[j].toNat : Int)) := o2.cellAt j _ (List.getElem?_eq_getElem (by omega))
      have hf : wr.frozen? ⟨g, j, none⟩ = false := o2.frozen j
      have k1' : (j : Int) < ((n + 1 : Nat) : Int) := by omega
      have HN := Lib.hid (show ∃ l', l'.length = n + 1 ∧ OwnL B (wr.setCell ⟨g, j, none⟩ (.int .u8 98)) (.slice (some ⟨g, 0, none⟩) (n + 1) k1) l' ∧ w.grownBy (wr.setCell ⟨g, j, none⟩ (.int .u8 98)) q from ⟨l'.set j 98, by simpa using hl', o2.set j 98 (by omega), grownBy_set g2 HGO.out⟩)
      obtain ⟨xj, hxj⟩ : ∃ xj : Int, xj = (l'[j].toNat : Int) := ⟨_, rfl⟩
      rw [← hxj] at hc
      clear o2 g2 hl' hxj
      go_wp2
      go_roundw
      case rel => exact ⟨j + 1, by omega, by go_num, HN⟩
      case measure => simp [intOf]; omega
    · have k1' : ¬ (j : Int) < ((n + 1 : Nat) : Int) := by omega
      obtain ⟨l', hl', o2, g2⟩ := HR.out
      have G2 := Lib.hid g2
      clear o2 g2 hl'
      go_wp2
      go_end0
      exact ⟨rfl, G2.out⟩
end Go.Proofs.Yticpldjcmhpjoaa
