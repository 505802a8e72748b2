/-
  The walk of 'put'.
-/
import Derived.Test.YtldcbkememonaaaM3
namespace Go.Proofs.Ytldcbkememonaaa
open Go.RowKit
set_option linter.unusedVariables false
set_option linter.unusedSimpArgs false

/-- append of a nil slice, at a step of a region that draws its order -/
theorem step_append_none {P : Program} {w : World} {ops : Array Oper} {o : Oper} {a : Act} {K : Act → World → Prop} {Q : Exit → Act → World → Prop} {E : Prop} (hgd : o.guard = none) (s x : Operand) (t : TypeId)
    (ho : o.op = .call { callee := .builtin .append, args := #[s, x], argTypes := #[t, t] })
    (base : Nat) (e : TypeId) (i : TypeInfo) (size : Nat) (ht : P.underlying t = some (.slice e)) (hi : P.info? e = some i)
    (v : Value) (n : Nat) (xs : List Value) (hs : a.eval s = v) (hown : w.ownsRow base e size v n xs) (hx : a.eval x = .slice none 0 0)
    (h : K (a.put o.dst v) w) : if Region.wanted o (yielded ops a.tmps) = true then Oper.wp P o a w K Q else E := by
  have hw : Region.wanted o (yielded ops a.tmps) = true := by simp [Region.wanted, hgd]
  rw [if_pos hw]
  have hrun := run_append_owned_none (P := P) (w := w) base t o.type e i size ht hi v n xs hown
  unfold Oper.wp
  simp [execOp, ho, resolve, invoke, builtin, hs, hx, hrun, Result.andThen]
  exact h

theorem frz {B r : Nat} {s : ByteArray} {st : RS} {v : Value} {w w1 : World} (h : RA B r s st v w) (hg : Grow w w1) : ∀ w8 : World, w1.grownBy w8 v.ownBlock → w8.frozen? ⟨r, 5, none⟩ = false := fun w8 h8 => by
  have := h.lt
  have := hg.size
  rw [World.frozen?_of_block (a := ⟨r, 5, none⟩) (h8.block r (by omega) (fun e => h.ne e.symm))]
  exact (h.grow hg).fz 5
def PutPost (B r : Nat) (s : ByteArray) (st : RS) (v : Value) (w : World) (e : Ending) (w' : World) : Prop :=
  e = .returned (.tuple #[]) ∧ ∃ v', RA B r s st v' w' ∧ Fr r v w w' ∧ NewB v v' w

theorem RdI.drew {L : List Ins} {g o : Nat} {w : World} (h : RdI L g o w) : RdI L g o w.drew := h.grow (Grow.refl w).drew

set_option maxHeartbeats 2000000 in
theorem put_some (B r : Nat) (s : ByteArray) (st : RS) (v : Value) (L2 : List Ins) (ao : Option Addr) (m c g o : Nat) (w : World) (h : RA B r s st v w) (hn : st.L.length + m ≤ 100000) (hm : 0 < m)
    (hl : L2.length = m) (hs : RdI L2 g o w) (ha : 0 < m → ao = some ⟨g, o, none⟩) :
    Calls Try.prog 51 #[.pointer (some ⟨r, 0, none⟩), .slice ao m c] w (PutPost B r s (st.put L2) v w) := by
  obtain ⟨i0, hi0, hz0, hz1, hz2⟩ := info_parts Try.info76
  obtain ⟨n, hN⟩ : ∃ n, n = st.L.length := ⟨_, rfl⟩
  obtain ⟨av, cv, hv, hcv⟩ := own_shape h.own
  subst hv
  have HN := Lib.hid hN
  have HL := Lib.hid hl
  have c5 := h.c5
  have hr := h.lt
  have h' : RA B r s st (.slice av n cv) w := by rw [hN]; exact h
  rw [show (Value.slice av st.L.length cv) = .slice av n cv from by rw [hN]]
  have H := Lib.hid h'
  have MV := Lib.hid (moved_any L2 (n : Nat) ao m c g o w.drew hl (by omega) hs.drew ha)
  have OW := Lib.hid (show w.ownsRow B 76 4 (.slice av n cv) n (cellsI st.L) from hN ▸ h.own)
  have hB : B ≤ w.heap.size := by have := h.rB; omega
  have mx : n + m ≤ maxLen := by unfold maxLen; omega
  have hnm : n + m ≤ 100000 := by omega
  rw [← hN] at c5
  clear h h' hl hs ha hN hn hcv
  go_enter Try.func51, Try.ntmps51
  go_wp2
  go_region_law
    (first
      | (refine step_append_lies _ (by rfl) _ _ _ (by rfl) B 76 i0 _ 4 40 Try.underlying31 hi0 hz0 hz1 hz2 rfl (by omega) (.slice av n cv) n (cellsI st.L) (by rfl)
          (own_grow OW.out GW.out) ⟨g2, 0, none⟩ m c2 (cellsI (L2.map (movI n))) (by rfl) (by rw [cellsI_length, List.length_map, HL.out]) (O2.out.cells (g := g2) rfl) (cellsI_allone _) hm mx (by omega) (Nat.le_trans hB GW.out.size) w1.heap.size (by rfl) ?_; intro gg8 cp8 w8 hown8 hgrow8 hat8 hlt8; have c8 := hgrow8.cell (a := ⟨r, 5, none⟩) c6 (fun e => NE.out e.symm); have f8 := FZ8.out _ hgrow8)
      | (go_simp; go_at_call 53; refine MV.out.mono ?_; rintro e w1 ⟨v2, rfl, own2, b2, hvz⟩; clear hvz; obtain ⟨g2, c2, rfl, _, _⟩ := own2.form hm; have GW := Lib.hid ((Grow.refl w).drew.trans b2); have O2 := Lib.hid own2; have c6 := (Below.cell GW.out (p := ⟨r, 5, none⟩) hr).trans c5; have NE := Lib.hid H.out.ne; have FZ8 := Lib.hid (frz H.out GW.out); clear own2 b2))
  all_goals
    have FIN := Lib.hid (H.out.app (l := L2.map (movI st.L.length)) (v' := .slice (some ⟨gg8, 0, none⟩) (n + m) cp8) GW.out hgrow8 (by rw [← HN.out, List.length_map, HL.out]; exact hown8)
      (fun g hg => by
        have e : g = gg8 := by simpa [Value.ownBlock] using hg.symm
        subst e
        rcases hat8 with h8 | h8
        · exact .inl h8
        · exact .inr (Nat.le_of_eq h8.symm)))
    clear hown8 hgrow8 hat8 hlt8 FZ8
    go_wp2
    go_end0
    exact ⟨rfl, _, FIN.out⟩

set_option maxHeartbeats 2000000 in
theorem put_none (B r : Nat) (s : ByteArray) (st : RS) (v : Value) (ao : Option Addr) (c : Nat) (w : World) (h : RA B r s st v w) (hn : st.L.length ≤ 100000) :
    Calls Try.prog 51 #[.pointer (some ⟨r, 0, none⟩), .slice ao 0 c] w (PutPost B r s (st.put []) v w) := by
  obtain ⟨i0, hi0, hz0, hz1, hz2⟩ := info_parts Try.info76
  obtain ⟨n, hN⟩ : ∃ n, n = st.L.length := ⟨_, rfl⟩
  obtain ⟨av, cv, hv, hcv⟩ := own_shape h.own
  subst hv
  have h' : RA B r s st (.slice av n cv) w := by rw [hN]; exact h
  rw [show (Value.slice av st.L.length cv) = .slice av n cv from by rw [hN]]
  have HN := Lib.hid hN
  have c5 := h.c5
  have hr := h.lt
  have H := Lib.hid h'
  have MV := Lib.hid (moved_any [] (n : Nat) ao 0 c 0 0 w.drew rfl (by omega) (fun k i hk => by simp at hk) (fun h => by omega))
  have OW := Lib.hid (show w.ownsRow B 76 4 (.slice av n cv) n (cellsI st.L) from hN ▸ h.own)
  have hnm : n ≤ 100000 := by omega
  rw [← hN] at c5
  clear h h' hN hn hcv
  go_enter Try.func51, Try.ntmps51
  go_wp2
  go_region_law
    (first
      | (refine step_append_none (by rfl) _ _ _ (by rfl) B 76 i0 4 Try.underlying31 hi0 (.slice av n cv) n (cellsI st.L) (by rfl) (own_grow OW.out GW.out) (by rfl) ?_)
      | (go_simp; go_at_call 53; refine MV.out.mono ?_; rintro e w1 ⟨v2, rfl, own2, b2, hvz⟩; obtain rfl := hvz (by trivial); have GW := Lib.hid ((Grow.refl w).drew.trans b2); have c6 := (Below.cell GW.out (p := ⟨r, 5, none⟩) hr).trans c5; have f8 := (H.out.grow GW.out).fz 5; clear own2 b2))
  all_goals
    have FIN := Lib.hid (H.out.app (w2 := w1) (l := []) (v' := .slice av n cv) GW.out ⟨rfl, rfl, rfl, Nat.le_refl _, fun _ _ _ => rfl⟩ (by rw [← HN.out]; simpa [cellsI] using own_grow OW.out GW.out) (fun g hg => .inl hg))
    go_wp2
    go_end0
    exact ⟨rfl, _, FIN.out⟩

theorem put_any (B r : Nat) (s : ByteArray) (st : RS) (v : Value) (L2 : List Ins) (ao : Option Addr) (m c g o : Nat) (w : World) (h : RA B r s st v w) (hn : st.L.length + m ≤ 100000)
    (hl : L2.length = m) (hs : RdI L2 g o w) (ha : 0 < m → ao = some ⟨g, o, none⟩) : Calls Try.prog 51 #[.pointer (some ⟨r, 0, none⟩), .slice ao m c] w (PutPost B r s (st.put L2) v w) := by
  rcases Nat.eq_zero_or_pos m with rfl | hm
  · obtain rfl : L2 = [] := List.eq_nil_of_length_eq_zero hl
    exact put_none B r s st v ao c w h hn
  · exact put_some B r s st v L2 ao m c g o w h hn hm hl hs ha
end Go.Proofs.Ytldcbkememonaaa
