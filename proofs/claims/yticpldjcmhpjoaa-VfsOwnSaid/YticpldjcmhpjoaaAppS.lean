/-
  append of any source onto a row of one's own: the new row, where it lies, and that only it was written.
-/
import Derived.Test.YticpldjcmhpjoaaQh
import Derived.Laws.IdiomCopy

namespace Go.Proofs.Yticpldjcmhpjoaa
open Go.RowKit
set_option linter.unusedVariables false
set_option linter.unusedSimpArgs false

theorem setCells_blk (b : Nat) : ∀ (vs : List Value) (o : Nat) (w : World) (cur : Array Value) (e : TypeId), w.heap[b]? = some (.cells cur e (0, 0)) →
    ∃ cur', (w.setCells b o vs).heap[b]? = some (.cells cur' e (0, 0)) ∧ cur'.size = cur.size
  | [], _, _, cur, _, h => ⟨cur, h, rfl⟩
  | v :: r, o, w, cur, e, h => by
    obtain ⟨cur', h1, h2⟩ := setCells_blk b r (o + 1) (w.setCell ⟨b, o, none⟩ v) _ e (Go.heap_setCell_same w b o _ _ v h)
    exact ⟨cur', h1, h2.trans (by simp)⟩
theorem setCells_frame (b : Nat) : ∀ (vs : List Value) (o : Nat) (w : World), w.grownBy (w.setCells b o vs) (some b)
  | [], _, w => ⟨rfl, rfl, rfl, Nat.le_refl _, fun _ _ _ => rfl⟩
  | v :: r, o, w => by
    have h := setCells_frame b r (o + 1) (w.setCell ⟨b, o, none⟩ v)
    refine ⟨h.os, h.tape, h.output, Nat.le_trans (by simp) h.size, fun k hk hkr => ?_⟩
    have hkb : k ≠ b := fun e => hkr (by rw [e])
    exact (h.block k (by simpa using hk) hkr).trans (heap_setCell_other _ _ _ _ hkb)

theorem grow_by {w w' : World} (h : Grow w w') (row : Option Nat) : w.grownBy w' row := ⟨Below.os h, Below.tape h, Below.output h, h.size, fun k hk _ => Below.block h k hk⟩
section
variable {P : Program} (w : World)
theorem run_append_srcs (B : Nat) (t tx ty e : TypeId) (i : TypeInfo) (z : Value) (bytes : Nat) (ht : P.underlying t = some (.slice e)) (hi : P.info? e = some i) (hz : i.zero = some z)
    (hsize : i.size = 1) (hby : i.bytes = bytes) (hzs : z.cells.size = 1)
    (v : Value) (n : Nat) (xs : List Value) (hown : w.ownsRow B e 1 v n xs) (x : Value) (m : Nat) (news : List Value) (hs : Src P 1 tx x m news w)
    (h63 : n + m ≤ maxLen) (hbytes : (n + m) * bytes ≤ 140737488355328) (hB : B ≤ w.heap.size) :
    ∃ v' w', (Builtin.append_ #[t, tx] ty #[v, x]).run P w = .ok v' w' ∧ w'.ownsRow B e 1 v' (n + m) (xs ++ news) ∧
      w.grownBy w' v.ownBlock ∧ (∀ g, v'.ownBlock = some g → v.ownBlock = some g ∨ w.heap.size ≤ g) := by
  subst hby
  have hsm : n + m ≤ 9223372036854775807 := by simp only [maxLen] at h63; omega
  have hnl := hs.newsLen
  simp only [Nat.mul_one] at hnl
  have hxl : xs.length = n := by have := hown.1; simpa using this
  have hge : ∀ cap, n + m ≤ grownCap w (n + m) cap e := fun cap => grownCap_ge w (n + m) cap e
  have hcm : ∀ cap, grownCap w (n + m) cap e ≤ maxLen := fun cap => grownCap_le_maxLen w (n + m) cap e h63
  have own' : ∀ cap, (w.drew.alloc (.cells ((xs ++ news).toArray ++ Builtin.zeroCells z.cells (grownCap w (n + m) cap e - (n + m))) e)).ownsRow B e 1 (.slice (some ⟨w.heap.size, 0, none⟩) (n + m) (grownCap w (n + m) cap e)) (n + m) (xs ++ news) := fun cap => by
    refine ⟨by simp [hxl, hnl], .inr ⟨w.heap.size, _, _, rfl, hB, heap_alloc_new w.drew _, hge cap, hcm cap, ?_, ?_⟩⟩
    · have := hge cap
      simp only [Array.size_append, List.size_toArray, size_zeroCells, hzs, List.length_append, hxl, hnl]
      omega
    · simp only [Array.toList_append]
      rw [show (n + m) * 1 = (xs ++ news).length from by simp [hxl, hnl]]
      exact List.take_left
  rcases hown.2 with ⟨rfl, hx0⟩ | ⟨g, cap, cur, rfl, hbg, hg, hnc, hcap, hcs, htake⟩
  · obtain rfl : n = 0 := by omega
    have hx : xs = [] := List.eq_nil_of_length_eq_zero hxl
    subst hx
    obtain ⟨v', w', h1, h2, h3, h4, h5⟩ := run_append_fresh w B t tx ty e i z 1 i.bytes ht hi hz hsize rfl hzs (.slice none 0 0) (.inl rfl) hown x m news hs (by omega) (by simpa using hbytes) hB
    refine ⟨v', w', h1, ?_, grow_by h3 _, fun g hg => ?_⟩
    · simpa using h2
    · rcases Nat.eq_zero_or_pos m with h0 | h0
      · rw [h5 h0] at hg; cases hg
      · obtain ⟨c, hc⟩ := h4 h0
        rw [hc] at hg
        have e : w.heap.size = g := by simpa [Value.ownBlock] using hg
        exact .inr (by omega)
  · by_cases hroom : n + m ≤ cap
    · have hcell : ∀ j, j < cur.size → (w.cell? ⟨g, j, none⟩).isSome = true := fun j hj => by rw [cell_blk hg j]; simp [hj]
      have hr := run_append_room_src (P := P) w t tx ty e i ht hi g 0 n cap x m news (by rw [hsize]; exact hs) hroom (fun j hj => by
          rw [hsize]; exact hcell _ (by omega)) (fun j hj => froz_blk hg _)
      rw [hsize] at hr
      simp only [Nat.zero_add, Nat.mul_one] at hr
      obtain ⟨cur', hg', hcs'⟩ := setCells_blk g news n w cur e hg
      refine ⟨_, _, hr, ⟨by simp [hxl, hnl], .inr ⟨g, cap, cur', rfl, hbg, hg', hroom, hcap, by omega, ?_⟩⟩, setCells_frame g news n w, fun q hq => .inl hq⟩
      apply List.ext_getElem?
      intro j
      rw [List.getElem?_take]
      by_cases hj : j < (n + m) * 1
      · rw [if_pos hj]
        have hcj : (w.setCells g n news).cell? ⟨g, j, none⟩ = cur'[j]? := cell_blk hg' j
        rw [Array.getElem?_toList, ← hcj]
        by_cases hjn : j < n
        · rw [World.cell?_setCells_out g news n w ⟨g, j, none⟩ (fun _ _ => .inl hjn), cell_blk hg j, List.getElem?_append_left (by omega), ← htake, List.getElem?_take, if_pos (by omega), Array.getElem?_toList]
        · have := World.cell?_setCells_in g news n w (fun k hk => hcell _ (by omega)) (j - n) (by omega)
          rw [show n + (j - n) = j from by omega] at this
          rw [this, List.getElem?_append_right (by omega), hxl, List.getElem?_eq_getElem (by omega)]
      · rw [if_neg hj, List.getElem?_eq_none (by simp [hxl, hnl]; omega)]
    · have hold : (Builtin.firstCells i.size n (.slice (some ⟨g, 0, none⟩) n cap)).run P w.drew = .ok xs.toArray w.drew := by
        rw [hsize]
        refine run_firstCells_some w.drew 1 n ⟨g, 0, none⟩ n cap xs (by simp [hxl]) (fun j u hu => ?_)
        exact hown.cells (g := g) rfl j u hu
      have hr := run_append_grow_src (P := P) w t tx ty e i z ht hi hz (some ⟨g, 0, none⟩) n cap xs hold x m news (by rw [hsize]; exact hs) (by omega) (by omega) (growslice_fits (by omega) hbytes)
      exact ⟨_, _, hr, own' cap, grow_by ((Grow.refl w).drew.alloc _) _, fun q hq => .inr (Nat.le_of_eq (by simpa [Value.ownBlock] using hq))⟩
theorem wp_append_srcs {o : Oper} {a : Act} {K : Act → World → Prop} {Q : Exit → Act → World → Prop} (s y : Operand) (t tx : TypeId)
    (ho : o.op = .call { callee := .builtin .append, args := #[s, y], argTypes := #[t, tx] })
    (B : Nat) (e : TypeId) (i : TypeInfo) (z : Value) (bytes : Nat) (ht : P.underlying t = some (.slice e)) (hi : P.info? e = some i) (hz : i.zero = some z)
    (hsize : i.size = 1) (hby : i.bytes = bytes) (hzs : z.cells.size = 1)
    (v : Value) (hsv : a.eval s = v) (n : Nat) (xs : List Value) (hown : w.ownsRow B e 1 v n xs) (x : Value) (hx : a.eval y = x) (m : Nat) (news : List Value) (hs : Src P 1 tx x m news w)
    (h63 : n + m ≤ maxLen) (hbytes : (n + m) * bytes ≤ 140737488355328) (hB : B ≤ w.heap.size)
    (h : ∀ v' w', w'.ownsRow B e 1 v' (n + m) (xs ++ news) → w.grownBy w' v.ownBlock → (∀ g, v'.ownBlock = some g → v.ownBlock = some g ∨ w.heap.size ≤ g) → K (a.put o.dst v') w') : o.wp P a w K Q := by
  obtain ⟨v', w', hrun, h2, h3, h4⟩ := run_append_srcs (P := P) w B t tx o.type e i z bytes ht hi hz hsize hby hzs v n xs hown x m news hs h63 hbytes hB
  unfold Oper.wp execOp
  simp only [ho, resolve, invoke, builtin, Sem.run_bind, Sem.run_pure, Result.andThen_ok, List.map_toArray, List.map_cons, List.map_nil, hsv, hx, hrun]
  exact h v' w' h2 h3 h4
theorem wpList_append_srcs {ops : Array Oper} {rest : List Oper} {o : Oper} {a : Act} {Q : Exit → Act → World → Prop} (hgd : o.guard = none) (s y : Operand) (t tx : TypeId)
    (ho : o.op = .call { callee := .builtin .append, args := #[s, y], argTypes := #[t, tx] })
    (B : Nat) (e : TypeId) (i : TypeInfo) (z : Value) (bytes : Nat) (ht : P.underlying t = some (.slice e)) (hi : P.info? e = some i) (hz : i.zero = some z)
    (hsize : i.size = 1) (hby : i.bytes = bytes) (hzs : z.cells.size = 1)
    (v : Value) (hsv : a.eval s = v) (n : Nat) (xs : List Value) (hown : w.ownsRow B e 1 v n xs) (x : Value) (hx : a.eval y = x) (m : Nat) (news : List Value) (hs : Src P 1 tx x m news w)
    (h63 : n + m ≤ maxLen) (hbytes : (n + m) * bytes ≤ 140737488355328) (hB : B ≤ w.heap.size)
    (h : ∀ v' w', w'.ownsRow B e 1 v' (n + m) (xs ++ news) → w.grownBy w' v.ownBlock → (∀ g, v'.ownBlock = some g → v.ownBlock = some g ∨ w.heap.size ≤ g) → wpList P ops Q rest (a.put o.dst v') w') : wpList P ops Q (o :: rest) a w :=
  wpList_plain hgd fun _ hK => wp_append_srcs w s y t tx ho B e i z bytes ht hi hz hsize hby hzs v hsv n xs hown x hx m news hs h63 hbytes hB fun v' w' h2 h3 h4 => hK _ _ (h v' w' h2 h3 h4)
end
end Go.Proofs.Yticpldjcmhpjoaa
