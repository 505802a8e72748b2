/-
  The walk of graticulelaw13.of.
-/
import Derived.Test.YtldcbkememonaaaD1
import Derived.Test.YtldcbkememonaaaPa
import Derived.Test.YtldcbkememonaaaT1

namespace Go.Proofs.Ytldcbkememonaaa
open Go.RowKit
set_option linter.unusedVariables false
set_option linter.unusedSimpArgs false

/-- two blocks of two cells that may be filled; nothing else is written -/
structure R2 (bA bB : Nat) (cA cB : Array Value) (w w' : World) : Prop where
  os : w'.os = w.os
  tape : w'.tape = w.tape
  output : w'.output = w.output
  size : w'.heap.size = w.heap.size
  block : ∀ k, k ≠ bA → k ≠ bB → w'.heap[k]? = w.heap[k]?
  a : w'.heap[bA]? = w.heap[bA]? ∨ w'.heap[bA]? = some (.cells cA 24 (0, 0))
  b : w'.heap[bB]? = w.heap[bB]? ∨ w'.heap[bB]? = some (.cells cB 33 (0, 0))
theorem R2.refl (bA bB : Nat) (cA cB : Array Value) (w : World) : R2 bA bB cA cB w w := ⟨rfl, rfl, rfl, rfl, fun _ _ _ => rfl, .inl rfl, .inl rfl⟩
theorem R2.trans (bA bB : Nat) (cA cB : Array Value) (x y z : World) (h : R2 bA bB cA cB x y) (k : R2 bA bB cA cB y z) : R2 bA bB cA cB x z :=
  ⟨k.os.trans h.os, k.tape.trans h.tape, k.output.trans h.output, k.size.trans h.size, fun i h1 h2 => (k.block i h1 h2).trans (h.block i h1 h2),
    by rcases k.a with e | e
       · rw [e]; exact h.a
       · exact .inr e,
    by rcases k.b with e | e
       · rw [e]; exact h.b
       · exact .inr e⟩
theorem R2.drew (bA bB : Nat) (cA cB : Array Value) (w : World) : R2 bA bB cA cB w w.drew := ⟨rfl, rfl, rfl, rfl, fun _ _ _ => rfl, .inl rfl, .inl rfl⟩
/-- what the seven operations leave -/
def phi21 (bA bB : Nat) (cA cB : Array Value) (E : Int) : Nat → Value → World → Prop
  | 0 => fun x _ => x = .agg cA
  | 1 => fun x _ => x = .agg cB
  | 2 => fun x _ => x = .int .i64 E
  | 3 => fun x _ => x = .bool (E == 0)
  | 4 => fun _ w => w.heap[bA]? = some (.cells cA 24 (0, 0))
  | 5 => fun _ w => w.heap[bB]? = some (.cells cB 33 (0, 0))
  | _ => fun x _ => x = .bool (E == 0)
theorem phi21_stab (bA bB : Nat) (cA cB : Array Value) (E : Int) (i : Nat) (x : Value) (w w' : World) (hr : R2 bA bB cA cB w w') (h : phi21 bA bB cA cB E i x w) : phi21 bA bB cA cB E i x w' := by
  by_cases h4 : i = 4
  · subst h4
    have h : w.heap[bA]? = some (.cells cA 24 (0, 0)) := h
    show w'.heap[bA]? = some (.cells cA 24 (0, 0))
    rcases hr.a with e | e
    · rw [e]; exact h
    · exact e
  · by_cases h5 : i = 5
    · subst h5
      have h : w.heap[bB]? = some (.cells cB 33 (0, 0)) := h
      show w'.heap[bB]? = some (.cells cB 33 (0, 0))
      rcases hr.b with e | e
      · rw [e]; exact h
      · exact e
    · unfold phi21 at h ⊢
      split at h <;> simp_all
theorem two_set {w : World} {b : Nat} {x y u v : Value} {t : TypeId} (h : w.heap[b]? = some (.cells #[x, y] t (0, 0))) : ((w.setCell ⟨b, 0, none⟩ u).setCell ⟨b, 1, none⟩ v).heap[b]? = some (.cells #[u, v] t (0, 0)) := by
  rw [Go.heap_setCell_same _ b 1 _ _ _ (Go.heap_setCell_same w b 0 _ _ _ h)]
  rfl
theorem two_other {w : World} {b k : Nat} {u v : Value} (h : k ≠ b) : ((w.setCell ⟨b, 0, none⟩ u).setCell ⟨b, 1, none⟩ v).heap[k]? = w.heap[k]? :=
  (heap_setCell_other _ _ _ _ h).trans (heap_setCell_other _ _ _ _ h)
theorem R2.setA {bA bB : Nat} {p q u v : Value} {cB : Array Value} {w : World} (h : w.heap[bA]? = some (.cells #[u, v] 24 (0, 0))) (hne : bA ≠ bB) : R2 bA bB #[p, q] cB w ((w.setCell ⟨bA, 0, none⟩ p).setCell ⟨bA, 1, none⟩ q) :=
  ⟨rfl, rfl, rfl, by simp, fun k h1 _ => two_other h1, .inr (two_set h), .inl (two_other hne.symm)⟩
theorem R2.setB {bA bB : Nat} {p q u v : Value} {cA : Array Value} {w : World} (h : w.heap[bB]? = some (.cells #[u, v] 33 (0, 0))) (hne : bA ≠ bB) : R2 bA bB cA #[p, q] w ((w.setCell ⟨bB, 0, none⟩ p).setCell ⟨bB, 1, none⟩ q) :=
  ⟨rfl, rfl, rfl, by simp, fun k _ h1 => two_other h1, .inl (two_other hne), .inr (two_set h)⟩
/-- what 'of' leaves -/
def OfP13 (s : ByteArray) (w : World) (e : Ending) (w' : World) : Prop :=
  ∃ lv lq, e = .returned (.tuple #[.agg #[.int .i64 (compF s).1, lv], .agg #[.int .i64 (compF s).1, lq], .bool ((compF s).2.2 == 0)]) ∧ w'.ownsRow w.heap.size 26 4 lv (compF s).2.1.length (cellsI (compF s).2.1) ∧ w'.ownsRow w.heap.size 76 4 lq (compF s).2.1.length (cellsI (compF s).2.1) ∧ Grow w w'
set_option maxRecDepth 100000 in
set_option maxHeartbeats 4000000 in
theorem of21_any (s : ByteArray) (w : World) (hs : s.size ≤ 10000) (SO : SetOk s) (hl : (compF s).2.1.length ≤ 30000) : Calls Try.prog 21 #[.string s] w (OfP13 s w) := by
  obtain ⟨i0, hi0, hz0, hz1, hz2⟩ := info_parts Try.info26
  have CM := Lib.hid (fun W => compile_any s W hs SO)
  unfold OfP13
  unfold CompPost at CM
  obtain ⟨gq, hgq⟩ : ∃ gq, gq = (compF s).1 := ⟨_, rfl⟩
  obtain ⟨L, hL⟩ : ∃ L, L = (compF s).2.1 := ⟨_, rfl⟩
  obtain ⟨E, hE⟩ : ∃ E, E = (compF s).2.2 := ⟨_, rfl⟩
  rw [← hgq, ← hL, ← hE] at CM ⊢
  rw [← hL] at hl
  clear hgq hL hE SO
  obtain ⟨n, hn⟩ : ∃ n, n = L.length := ⟨_, rfl⟩
  rw [← hn] at CM hl ⊢
  have HN := Lib.hid hn
  clear hn
  obtain ⟨W1, hW1⟩ : ∃ W1, W1 = (w.alloc (.cells #[.int .i64 0, .slice none 0 0] 24)).alloc (.cells #[.int .i64 0, .slice none 0 0] 33) := ⟨_, rfl⟩
  have zA : W1.heap[w.heap.size]? = some (.cells #[.int .i64 0, .slice none 0 0] 24 (0, 0)) := by rw [hW1, Below.heap_alloc _ _ _ (by simp)]; exact heap_alloc_new w _
  have zB : W1.heap[w.heap.size + 1]? = some (.cells #[.int .i64 0, .slice none 0 0] 33 (0, 0)) := by rw [hW1]; exact heap_alloc_two w _ _
  have ZA := Lib.hid zA
  have ZB := Lib.hid zB
  have GW1 := Lib.hid (show Grow w W1 from by rw [hW1]; exact ((Grow.refl w).alloc _).alloc _)
  have HW1 := Lib.hid hW1
  have zW : W1.heap.size = w.heap.size + 2 := by rw [hW1]; simp
  clear zA zB hW1
  go_enter Try.func21, Try.ntmps21
  go_wp2_with fail
  rw [← HW1.out]
  refine (CM.out _).mono ?_
  rintro e w2 ⟨lv, rfl, own, g2⟩
  obtain ⟨al, cl, rfl, _⟩ := own_shape own
  have z2 : w.heap.size + 2 ≤ w2.heap.size := by have := Grow.size g2; omega
  have RA2 := Lib.hid ((Below.block g2 _ (by omega)).trans ZA.out)
  have RB2 := Lib.hid ((Below.block g2 _ (by omega)).trans ZB.out)
  have G2 := Lib.hid (GW1.out.trans (Below.mono g2 (by omega)))
  have OQ := Lib.hid own
  obtain ⟨w3, hw3⟩ : ∃ w3, w3 = w2.alloc (.cells #[.int .i64 gq, .slice al n cl] 33) := ⟨_, rfl⟩
  have z3 : w3.heap.size = w2.heap.size + 1 := by rw [hw3]; simp
  have S3 := Lib.hid (show w3.heap[w2.heap.size]? = some (.cells #[.int .i64 gq, .slice al n cl] 33 (0, 0)) from by rw [hw3]; exact heap_alloc_new w2 _)
  have G3 := Lib.hid (show Grow w2 w3 from by rw [hw3]; exact (Grow.refl _).alloc _)
  have OW := Lib.hid (own_grow own G3.out)
  have ZW := Lib.hid zW
  clear own g2 CM zW
  go_wp2
  rw [← hw3]
  clear hw3
  have H4 := Lib.hid (heap_alloc_new w3 (.cells #[.int .i64 gq, .slice none 0 0] 24))
  rw [z3] at H4
  have N4 := Lib.hid (World.ownsRow_nil (w3.alloc (.cells #[.int .i64 gq, .slice none 0 0] 24)) (w2.heap.size + 2) 26 4)
  go_loopw [8] (fun t wr => ∃ (j : Nat) (kv : Value), j ≤ n ∧ t = .int .i64 j ∧ Hid (wr.ownsRow (w2.heap.size + 2) 26 4 kv j (cellsI (L.take j))) ∧ Hid (wr.heap[w2.heap.size + 1]? = some (.cells #[.int .i64 gq, kv] 24 (0, 0))) ∧ Grow w3 wr) (fun t _ => n - (intOf t).toNat)
  case atStart => exact ⟨0, _, by omega, rfl, N4, H4, (Grow.refl _).alloc _⟩
  case round =>
    clear N4 H4
    obtain ⟨j, kv, hj, rfl, OK, HBN, hb⟩ := hrel
    have k0 : (0 : Int) ≤ (j : Int) := by omega
    have hbn : w2.heap.size + 1 < wr.heap.size := lt_blk HBN.out
    have hsb := (Below.block hb _ (show w2.heap.size < w3.heap.size by omega)).trans S3.out
    have d0 := cell_blk hsb 0
    have d1 := cell_blk hsb 1
    simp at d0 d1
    have HSB := Lib.hid hsb
    have HB := Lib.hid hb
    clear hb hsb
    by_cases hlt : j < n
    · have k1 : (j : Int) < (n : Int) := by omega
      obtain ⟨⟨op, x, y, ps⟩, hI⟩ : ∃ I, L[j]? = some I := ⟨_, List.getElem?_eq_getElem (by rw [← HN.out]; exact hlt)⟩
      obtain ⟨gl, cl', hv, _, hgl⟩ := OW.out.form (by omega)
      injection hv with hv1 _ hv2
      subst hv1 hv2
      obtain ⟨_, q0, q1, q2, q3⟩ := (rdI_own OW.out HN.out.symm).grow HB.out j _ hI
      rw [Nat.zero_add] at q0 q1 q2 q3
      simp only at q0 q1 q2 q3
      have HT := Lib.hid (take_snocI L j _ hI)
      obtain ⟨a0, c0, rfl, _⟩ := own_shape OK.out
      have e1 := cell_blk HBN.out 1
      have f1 := froz_blk HBN.out 1
      simp at e1
      have hglr : gl < wr.heap.size := by have := HB.out.size; omega
      have mx : j + 1 ≤ maxLen := by unfold maxLen; omega
      have c5A := Lib.hid (show ∀ ob, (wr.drew.alloc ob).cell? ⟨w2.heap.size + 1, 1, none⟩ = some (.slice a0 j c0) from fun ob => (World.cell?_alloc_lt _ _ _ (by simpa using hbn)).trans (by simpa using e1))
      have NE6 := Lib.hid (show (Value.slice a0 j c0).ownBlock ≠ some (w2.heap.size + 1) from fun e => by have := (OK.out.lt _ e).1; omega)
      have FZ8 := Lib.hid (show ∀ (ob : Obj) (w8 : World), (wr.drew.alloc ob).grownBy w8 (Value.slice a0 j c0).ownBlock → w8.frozen? ⟨w2.heap.size + 1, 1, none⟩ = false from fun ob w8 hg => by
        rw [World.frozen?_of_block (a := ⟨w2.heap.size + 1, 1, none⟩) (hg.block (w2.heap.size + 1) (by simp; omega) (fun e => NE6.out e.symm)), World.frozen?_of_block (a := ⟨w2.heap.size + 1, 1, none⟩) (Below.heap_alloc _ _ _ (by simpa using hbn))]
        simpa using f1)
      have hsz := hbn
      clear hI
      go_wp2
      go_region_law
        (refine step_append_lies _ (by rfl) _ _ _ (by rfl) (w2.heap.size + 2) 26 i0 _ 4 40 Try.underlying22 hi0 hz0 hz1 hz2 rfl (by omega) (.slice a0 j c0) j (cellsI (L.take j)) (by rfl) ((own_grow OK.out (Grow.refl wr).drew).alloc _) ⟨wr.heap.size, 0, none⟩ 1 1 (insC ⟨op, x, y, ps⟩) (by rfl) (by rfl) (World.news_of_block (cs := #[.int .i64 op, .int .i64 x, .int .i64 y, .string ps]) (t := 26) (fr := (0, 0)) (heap_alloc_new wr.drew _)) (insC_one _) (by omega) mx (by omega) (by simp; omega) (wr.heap.size + 1) (by simp) ?_; intro gg8 cp8 w8 hown8 hgrow8 hat8 hlt8; have c8 := hgrow8.cell (a := ⟨w2.heap.size + 1, 1, none⟩) (c5A.out _) (fun e => NE6.out e.symm); have f8 := FZ8.out _ _ hgrow8)
      all_goals
        have b8 := grown_blk hgrow8 ((Below.block ((Grow.refl wr).drew.alloc _) _ hbn).trans HBN.out) (fun q hq => by have := (OK.out.lt q hq).1; omega)
        have R1 := Lib.hid (own_set (j := 1) hown8 (show w2.heap.size + 1 < w2.heap.size + 2 by omega) (.slice (some ⟨gg8, 0, none⟩) (j + 1) cp8))
        have R1' : Hid ((w8.setCell ⟨w2.heap.size + 1, 1, none⟩ (.slice (some ⟨gg8, 0, none⟩) (j + 1) cp8)).ownsRow (w2.heap.size + 2) 26 4 (.slice (some ⟨gg8, 0, none⟩) (j + 1) cp8) (j + 1) (cellsI (L.take (j + 1)))) := Lib.hid (by
          rw [HT.out, cellsI_append, cellsI_one]; exact R1.out)
        have R2' := Lib.hid (show (w8.setCell ⟨w2.heap.size + 1, 1, none⟩ (.slice (some ⟨gg8, 0, none⟩) (j + 1) cp8)).heap[w2.heap.size + 1]? = some (.cells #[.int .i64 gq, .slice (some ⟨gg8, 0, none⟩) (j + 1) cp8] 24 (0, 0)) from by
          rw [Go.heap_setCell_same w8 _ 1 _ _ _ b8]; rfl)
        have R3 := Lib.hid (show Grow w3 (w8.setCell ⟨w2.heap.size + 1, 1, none⟩ (.slice (some ⟨gg8, 0, none⟩) (j + 1) cp8)) from
          (HB.out.trans' ((Grow.refl wr).drew.alloc _) hgrow8 (fun q hq => by have := (OK.out.lt q hq).1; omega)).setCell (by simp only; omega) _)
        clear hown8 hgrow8 b8 hat8 c8 f8 R1
        go_wp2
        go_roundw
        case rel => exact ⟨j + 1, _, by omega, by go_num, R1', R2', R3.out⟩
        case measure => simp [intOf]; omega
    · have k1 : ¬ (j : Int) < (n : Int) := by omega
      obtain rfl : n = j := by omega
      obtain ⟨a0, c0, rfl, _⟩ := own_shape OK.out
      have GG := Lib.hid (G3.out.trans HB.out)
      have ra := (Below.block GG.out _ (by omega)).trans RA2.out
      have rb := (Below.block GG.out _ (by omega)).trans RB2.out
      have FIN := Lib.hid (show Grow w wr from Below.trans G2.out (Below.mono GG.out (by omega)))
      have RAH := Lib.hid ra
      have RBH := Lib.hid rb
      clear ra rb
      go_wp2
      refine wp_region_R' (R2 w.heap.size (w.heap.size + 1) #[.int .i64 gq, .slice a0 n c0] #[.int .i64 gq, .slice al n cl]) (R2.refl _ _ _ _) (R2.trans _ _ _ _) (R2.drew _ _ _ _ _) (phi21 w.heap.size (w.heap.size + 1) #[.int .i64 gq, .slice a0 n c0] #[.int .i64 gq, .slice al n cl] E) (by kernel_rfl) (by kernel_rfl) (phi21_stab _ _ _ _ _) ?_ ?_
      · intro x wq hG
        have qp := (hG.block (w2.heap.size + 1) (by omega) (by omega)).trans HBN.out
        have qq := (hG.block w2.heap.size (by omega) (by omega)).trans HSB.out
        have p0 := cell_blk qp 0
        have p1 := cell_blk qp 1
        have s0 := cell_blk qq 0
        have s1 := cell_blk qq 1
        simp at p0 p1 s0 s1
        refine ⟨fun hp => ?_, fun hp => ?_, fun hp => ?_, fun hp => ?_, fun hp => ?_, fun hp => ?_, fun hp => ?_, trivial⟩
        · unfold PStepR
          rw [if_pos (by rfl)]
          intro K hK
          simp only [fillFrom, Act.put, List.setIfInBounds_toArray, List.set_cons_zero, List.set_cons_succ, Nat.reduceAdd] at hK ⊢
          go_simp
          exact hK _ _ (R2.refl _ _ _ _ _) rfl
        · unfold PStepR
          rw [if_pos (by rfl)]
          intro K hK
          simp only [fillFrom, Act.put, List.setIfInBounds_toArray, List.set_cons_zero, List.set_cons_succ, Nat.reduceAdd] at hK ⊢
          go_simp
          exact hK _ _ (R2.refl _ _ _ _ _) rfl
        · unfold PStepR
          rw [if_pos (by rfl)]
          intro K hK
          simp only [fillFrom, Act.put, List.setIfInBounds_toArray, List.set_cons_zero, List.set_cons_succ, Nat.reduceAdd] at hK ⊢
          go_simp
          exact hK _ _ (R2.refl _ _ _ _ _) rfl
        · have h2 : x 2 = .int .i64 E := hp.1 rfl
          unfold PStepR
          rw [if_pos (by rfl)]
          intro K hK
          simp only [fillFrom, Act.put, List.setIfInBounds_toArray, List.set_cons_zero, List.set_cons_succ, Nat.reduceAdd, h2] at hK ⊢
          go_simp
          exact hK _ _ (R2.refl _ _ _ _ _) rfl
        · have h0 : x 0 = .agg #[.int .i64 gq, .slice a0 n c0] := hp.1 rfl
          unfold PStepR
          rw [if_pos (by rfl)]
          intro K hK
          simp only [fillFrom, Act.put, List.setIfInBounds_toArray, List.set_cons_zero, List.set_cons_succ, Nat.reduceAdd, h0] at hK ⊢
          have hc : wq.heap[w.heap.size]? = some (.cells #[.int .i64 0, .slice none 0 0] 24 (0, 0)) ∨ wq.heap[w.heap.size]? = some (.cells #[.int .i64 gq, .slice a0 n c0] 24 (0, 0)) := by
            rcases hG.a with e | e
            · rw [e]; exact .inl RAH.out
            · exact .inr e
          have hex : ∃ u v, wq.heap[w.heap.size]? = some (.cells #[u, v] 24 (0, 0)) := by
            rcases hc with e | e <;> exact ⟨_, _, e⟩
          obtain ⟨u0, u1, hu⟩ := hex
          have t0 := cell_blk hu 0
          have t1 := cell_blk hu 1
          have t2 := froz_blk hu 0
          have t3 := froz_blk hu 1
          have t4 := lt_blk hu
          simp at t0 t1
          go_simp
          exact hK undef _ (R2.setA hu (by omega)) (two_set hu)
        · have h1 : x 1 = .agg #[.int .i64 gq, .slice al n cl] := hp.1 rfl
          unfold PStepR
          rw [if_pos (by rfl)]
          intro K hK
          simp only [fillFrom, Act.put, List.setIfInBounds_toArray, List.set_cons_zero, List.set_cons_succ, Nat.reduceAdd, h1] at hK ⊢
          have hc : wq.heap[w.heap.size + 1]? = some (.cells #[.int .i64 0, .slice none 0 0] 33 (0, 0)) ∨ wq.heap[w.heap.size + 1]? = some (.cells #[.int .i64 gq, .slice al n cl] 33 (0, 0)) := by
            rcases hG.b with e | e
            · rw [e]; exact .inl RBH.out
            · exact .inr e
          have hex : ∃ u v, wq.heap[w.heap.size + 1]? = some (.cells #[u, v] 33 (0, 0)) := by
            rcases hc with e | e <;> exact ⟨_, _, e⟩
          obtain ⟨u0, u1, hu⟩ := hex
          have t0 := cell_blk hu 0
          have t1 := cell_blk hu 1
          have t2 := froz_blk hu 0
          have t3 := froz_blk hu 1
          have t4 := lt_blk hu
          simp at t0 t1
          go_simp
          exact hK undef _ (R2.setB hu (by omega)) (two_set hu)
        · have h3 : x 3 = .bool (E == 0) := hp.1 rfl
          unfold PStepR
          rw [if_pos (by rfl)]
          intro K hK
          simp only [fillFrom, Act.put, List.setIfInBounds_toArray, List.set_cons_zero, List.set_cons_succ, Nat.reduceAdd, h3] at hK ⊢
          go_simp
          exact hK _ _ (R2.refl _ _ _ _ _) rfl
      · intro x w5 hG hP
        have e0 : x 0 = .agg #[.int .i64 gq, .slice a0 n c0] := hP.1
        have e1 : x 1 = .agg #[.int .i64 gq, .slice al n cl] := hP.2.1
        have e2 : x 2 = .int .i64 E := hP.2.2.1
        have e3 : x 3 = .bool (E == 0) := hP.2.2.2.1
        have e4 : w5.heap[w.heap.size]? = some (.cells #[.int .i64 gq, .slice a0 n c0] 24 (0, 0)) := hP.2.2.2.2.1
        have e5 : w5.heap[w.heap.size + 1]? = some (.cells #[.int .i64 gq, .slice al n cl] 33 (0, 0)) := hP.2.2.2.2.2.1
        have e6 : x 6 = .bool (E == 0) := hP.2.2.2.2.2.2.1
        simp only [fillFrom, Act.put, List.setIfInBounds_toArray, List.set_cons_zero, List.set_cons_succ, Nat.reduceAdd, e0, e1, e2, e3, e6]
        clear hP e0 e1 e2 e3 e6
        have hgb : wr.grownBy w5 none → True := fun _ => trivial
        clear hgb
        have keep : ∀ (B ee ss m : Nat) (v : Value) (xs : List Value), w.heap.size + 2 ≤ B → wr.ownsRow B ee ss v m xs → w5.ownsRow B ee ss v m xs := fun B ee ss m v xs hB h => by
          rcases h.2 with ⟨h1, h2⟩ | ⟨g, cap, cur, h1, h2, h3, h4⟩
          · exact ⟨h.1, .inl ⟨h1, h2⟩⟩
          · exact ⟨h.1, .inr ⟨g, cap, cur, h1, h2, (hG.block g (by omega) (by omega)).trans h3, h4⟩⟩
        have O1 := keep _ _ _ _ _ _ (by omega) OK.out
        rw [List.take_of_length_le (by rw [← HN.out]; exact Nat.le_refl _)] at O1
        have hz1 : W1.heap.size = w.heap.size + 2 := ZW.out
        have O2 := keep _ _ _ _ _ _ (by omega) (own_grow OQ.out (G3.out.trans HB.out))
        have G5 := Lib.hid (show Grow w w5 from ⟨hG.os.trans (Below.os FIN.out), hG.tape.trans (Below.tape FIN.out), hG.output.trans (Below.output FIN.out), Nat.le_trans FIN.out.size (Nat.le_of_eq hG.size.symm), fun k hk => (hG.block k (by omega) (by omega)).trans (Below.block FIN.out k hk)⟩)
        have P1 := Lib.hid (Joins.ownsRow_le O1 (show w.heap.size ≤ w2.heap.size + 2 by omega))
        have P2 := Lib.hid (Joins.ownsRow_le O2 (show w.heap.size ≤ W1.heap.size by omega))
        have r0 := cell_blk e4 0
        have r1 := cell_blk e4 1
        have r2 := cell_blk e5 0
        have r3 := cell_blk e5 1
        simp at r0 r1 r2 r3
        clear O1 O2 keep hG hz1 e4 e5
        go_wp2
        refine bodyPost_ret (v := .tuple #[.agg #[.int .i64 gq, .slice a0 n c0], .agg #[.int .i64 gq, .slice al n cl], .bool (E == 0)]) (by simp [results, Try.results21, go_sem, r0, r1, r2, r3]) rfl ?_
        exact ⟨_, _, rfl, P1.out, P2.out, G5.out⟩
end Go.Proofs.Ytldcbkememonaaa
