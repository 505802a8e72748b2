/-
  The walks of slot.Writes and of its reference.
-/
import Derived.Test.YtjgfhkgjaodjhaaRef2
import Derived.Test.YtjgfhkgjaodjhaaPhi
namespace Go.Proofs.Ytjgfhkgjaodjhaa
open Go.RowKit

/-- a slice value that reads as xs, in memory from block B on -/
def Rd (B : Nat) (xs : List Value) (v : Value) (w : World) : Prop :=
  ∃ g o n c, v = .slice (some ⟨g, o, none⟩) n c ∧ xs.length = n ∧ n ≤ c ∧ c ≤ maxLen ∧ B ≤ g ∧ g < w.heap.size ∧ ∀ j u, xs[j]? = some u → w.cell? ⟨g, o + j, none⟩ = some u
theorem Rd.grow {B : Nat} {xs : List Value} {v : Value} {w w' : World} (h : Rd B xs v w) (hg : Grow w w') : Rd B xs v w' := by
  obtain ⟨g, o, n, c, h1, h0, h2, h3, h4, h5, h6⟩ := h
  exact ⟨g, o, n, c, h1, h0, h2, h3, h4, Nat.lt_of_lt_of_le h5 hg.size, fun j u hu => (Below.cell hg (p := ⟨g, o + j, none⟩) h5).trans (h6 j u hu)⟩

/-- a slice of three slices -/
def Rd3 (B : Nat) (xs ys zs : List Value) (v : Value) (w : World) : Prop :=
  ∃ g v0 v1 v2, v = .slice (some ⟨g, 0, none⟩) 3 3 ∧ g < w.heap.size ∧ B ≤ g ∧ w.cell? ⟨g, 0, none⟩ = some v0 ∧ w.cell? ⟨g, 1, none⟩ = some v1 ∧ w.cell? ⟨g, 2, none⟩ = some v2 ∧ Rd B xs v0 w ∧ Rd B ys v1 w ∧ Rd B zs v2 w
theorem Rd3.grow {B : Nat} {xs ys zs : List Value} {v : Value} {w w' : World} (h : Rd3 B xs ys zs v w) (hg : Grow w w') : Rd3 B xs ys zs v w' := by
  obtain ⟨g, v0, v1, v2, h1, h2, h3, h4, h5, h6, h7, h8, h9⟩ := h
  exact ⟨g, v0, v1, v2, h1, Nat.lt_of_lt_of_le h2 hg.size, h3, (Below.cell hg (p := ⟨g, 0, none⟩) h2).trans h4, (Below.cell hg (p := ⟨g, 1, none⟩) h2).trans h5, (Below.cell hg (p := ⟨g, 2, none⟩) h2).trans h6, h7.grow hg, h8.grow hg, h9.grow hg⟩

def zero4 : List Value := [.int .u8 0, .int .u8 0, .int .u8 0, .int .u8 0]

def phi12 (B gg c : Nat) (es : List Value) : Nat → Value → World → Prop
  | 0 => Rd B zero4
  | 1 => fun v _ => v = .slice (some ⟨gg, 0, none⟩) 12 c
  | 2 => fun v _ => v = .slice (some ⟨gg, 4, none⟩) 8 (c - 4)
  | 3 => Rd B (es.drop 4)
  | 4 => fun v _ => v = .slice (some ⟨gg, 0, none⟩) 12 c
  | 5 => fun v _ => v = .slice (some ⟨gg, 0, none⟩) 4 c
  | 6 => Rd B (es.take 4)
  | _ => Rd3 B zero4 (es.drop 4) (es.take 4)
theorem phi12_grow (B gg c : Nat) (es : List Value) (i : Nat) (v : Value) (w w' : World) (hg : Grow w w') (h : phi12 B gg c es i v w) : phi12 B gg c es i v w' := by
  match i with
  | 0 => exact Rd.grow h hg
  | 1 => exact h
  | 2 => exact h
  | 3 => exact Rd.grow h hg
  | 4 => exact h
  | 5 => exact h
  | 6 => exact Rd.grow h hg
  | _ + 7 => exact Rd3.grow h hg

theorem Rd.of_own {B n c g : Nat} {xs : List Value} {w : World} (h : w.ownsRow B 5 1 (.slice (some ⟨g, 0, none⟩) n c) n xs) (hn : 0 < n) : Rd B xs (.slice (some ⟨g, 0, none⟩) n c) w := by
  have hl : xs.length = n := by have := h.1; omega
  obtain ⟨hq1, hq2⟩ := h.lt g rfl
  rcases h.2 with ⟨h0, _⟩ | ⟨g2, cap2, cur, hv2, _, _, hnc, hm, _⟩
  · cases h0
  · injection hv2 with _ _ hv
    subst hv
    refine ⟨g, 0, n, c, rfl, hl, by omega, hm, hq1, hq2, fun j u hu => ?_⟩
    have := h.cells (g := g) rfl j u hu
    have hadd : (⟨g, 0, none⟩ : Addr).add j = ⟨g, 0 + j, none⟩ := by unfold Addr.add; split <;> simp_all
    rwa [hadd] at this

theorem grow_none {w w' : World} (h : w.grownBy w' (Value.slice none 0 0).ownBlock) : Grow w w' :=
  ⟨h.os, h.tape, h.output, h.size, fun i hi => h.block i hi (by simp [Value.ownBlock])⟩

theorem enc_length (a n : Int) : (enc a n).length = 12 := by simp [enc, beTake_length]
theorem beTake_one (m : Nat) (N : Int) : ∀ k, ∀ u ∈ beTake m N k, u.oneCell' = true
  | 0, u, hu => by simp [beTake] at hu
  | k + 1, u, hu => by
    simp only [beTake, List.mem_append, List.mem_singleton] at hu
    rcases hu with hu | rfl
    · exact beTake_one m N k u hu
    · rfl
theorem enc_one (a n : Int) : ∀ u ∈ enc a n, u.oneCell' = true := fun u hu => by
  rcases List.mem_append.1 hu with h | h
  · exact beTake_one _ _ _ u h
  · exact beTake_one _ _ _ u h

set_option maxHeartbeats 1000000 in
theorem writes_any (a n : Int) (hn : I64 n) (w : World) :
    Calls Try.prog 12 #[.agg #[.int .i64 a, .int .i64 n]] w fun e w' => ∃ v, e = .returned v ∧ Rd3 w.heap.size zero4 ((enc a n).drop 4) ((enc a n).take 4) v w' ∧ Below w.heap.size w w' := by
  have hmk : ∀ w, (Instr.makeSlice 30 (.int .i64 4) (.int .i64 4)).run Try.prog w = .ok (.slice (some ⟨w.heap.size, 0, none⟩) 4 4) (w.alloc (.cells #[.int .u8 0, .int .u8 0, .int .u8 0, .int .u8 0] 5)) := fun _ => by kernel_rfl
  obtain ⟨i0, hi0, hz0, hz1, hz2⟩ := info_parts Try.info5
  go_enter Try.func12, Try.ntmps12
  go_wp2_with fail
  refine (enc_any a n hn _).mono ?_
  rintro e w1 ⟨gg, c, rfl, o1, b1⟩
  have b1' : Below w.heap.size w w1 := ((Below.refl _ _).alloc (Nat.le_refl _) _).trans (b1.mono (by simp))
  have R1 := Lib.hid (Rd.of_own (Joins.ownsRow_le (base' := w.heap.size) o1 (by simp)) (by omega))
  clear o1 b1
  go_wp2
  refine wp_region_phi' (phi12 w.heap.size gg c (enc a n)) (by kernel_rfl) (by kernel_rfl) (phi12_grow _ _ _ _) ?_ ?_
  · intro x w2 hG
    obtain ⟨g', o', n', c', hv, hl0, hl1, hl2, hl3, hl4, hl5⟩ := R1.out.grow hG
    injection hv with hv1 hv2 hv3
    injection hv1 with hv1
    injection hv1 with hv1 hv4 _
    subst hv1 hv4 hv3 hv2
    clear hl0
    have hc4 : ¬ c = 4 := by omega
    have hc5 : (4 : Int) ≤ (c : Int) := by omega
    have hd8 : ∀ j u, ((enc a n).drop 4)[j]? = some u → w2.cell? ((⟨gg, 4, none⟩ : Addr).add j) = some u := fun j u hu => by
      have := hl5 (4 + j) u (by simpa using hu)
      unfold Addr.add
      split <;> simp_all
    have ht4 : ∀ j u, ((enc a n).take 4)[j]? = some u → w2.cell? ((⟨gg, 0, none⟩ : Addr).add j) = some u := fun j u hu => by
      have := hl5 j u (by rw [List.getElem?_take] at hu; split at hu <;> simp_all)
      unfold Addr.add
      split <;> simp_all
    have HD := Lib.hid hd8
    have HT := Lib.hid ht4
    clear hd8 ht4 hl5
    refine ⟨fun hp => ?_, fun hp => ?_, fun hp => ?_, fun hp => ?_, fun hp => ?_, fun hp => ?_, fun hp => ?_, fun hp => ?_, fun hp => ?_, trivial⟩
    · unfold PhiStep
      rw [if_pos (by rfl)]
      intro K hK
      simp only [fillFrom, Act.put, List.setIfInBounds_toArray, List.set_cons_zero, List.set_cons_succ, Nat.reduceAdd] at hK ⊢
      go_simp
      refine hK _ _ ((Grow.refl _).alloc _) ?_
      refine ⟨w2.heap.size, 0, 4, 4, rfl, rfl, by simp, by simp [maxLen], Nat.le_trans b1'.size hG.size, by simp, fun j u hu => ?_⟩
      have := World.news_of_block (heap_alloc_new w2 (.cells #[.int .u8 0, .int .u8 0, .int .u8 0, .int .u8 0] 5)) j u hu
      unfold Addr.add at this
      split at this <;> simp_all
    · unfold PhiStep
      rw [if_pos (by rfl)]
      intro K hK
      simp only [fillFrom, Act.put, List.setIfInBounds_toArray, List.set_cons_zero, List.set_cons_succ, Nat.reduceAdd] at hK ⊢
      go_simp
      exact hK _ _ (Grow.refl _) rfl
    · have h1 : x 1 = .slice (some ⟨gg, 0, none⟩) 12 c := hp.1 rfl
      unfold PhiStep
      rw [if_pos (by rfl)]
      intro K hK
      simp only [fillFrom, Act.put, List.setIfInBounds_toArray, List.set_cons_zero, List.set_cons_succ, Nat.reduceAdd, h1] at hK ⊢
      clear h1
      go_simp
      exact hK _ _ (Grow.refl _) rfl
    · have h2 : x 2 = Value.slice (some ⟨gg, 4, none⟩) 8 (c - 4) := hp.1 rfl
      unfold PhiStep
      rw [if_pos (by rfl)]
      intro K hK
      simp only [fillFrom, Act.put, List.setIfInBounds_toArray, List.set_cons_zero, List.set_cons_succ, Nat.reduceAdd, h2] at hK ⊢
      refine wp_append_lies w2 _ _ 30 rfl w.heap.size 5 i0 _ 1 1 Try.underlying30 hi0 hz0 hz1 hz2 rfl (by omega) (.slice none 0 0) 0 [] rfl (World.ownsRow_nil _ _ _ _) ⟨gg, 4, none⟩ 8 (c - 4) ((enc a n).drop 4) rfl (by simp [enc_length]) HD.out (fun u hu => enc_one a n u (List.mem_of_mem_drop hu)) (by omega) (by simp [maxLen]) (by omega) (Nat.le_trans b1'.size hG.size) w2.heap.size rfl ?_
      intro g cap w3 hown hgr hat hlt
      exact hK _ w3 (grow_none hgr) (Rd.of_own hown (by omega))
    · unfold PhiStep
      rw [if_pos (by rfl)]
      intro K hK
      simp only [fillFrom, Act.put, List.setIfInBounds_toArray, List.set_cons_zero, List.set_cons_succ, Nat.reduceAdd] at hK ⊢
      go_simp
      exact hK _ _ (Grow.refl _) rfl
    · have h4 : x 4 = .slice (some ⟨gg, 0, none⟩) 12 c := hp.1 rfl
      unfold PhiStep
      rw [if_pos (by rfl)]
      intro K hK
      simp only [fillFrom, Act.put, List.setIfInBounds_toArray, List.set_cons_zero, List.set_cons_succ, Nat.reduceAdd, h4] at hK ⊢
      clear h4
      go_simp
      exact hK _ _ (Grow.refl _) rfl
    · have h5 : x 5 = Value.slice (some ⟨gg, 0, none⟩) 4 c := hp.1 rfl
      unfold PhiStep
      rw [if_pos (by rfl)]
      intro K hK
      simp only [fillFrom, Act.put, List.setIfInBounds_toArray, List.set_cons_zero, List.set_cons_succ, Nat.reduceAdd, h5] at hK ⊢
      refine wp_append_lies w2 _ _ 30 rfl w.heap.size 5 i0 _ 1 1 Try.underlying30 hi0 hz0 hz1 hz2 rfl (by omega) (.slice none 0 0) 0 [] rfl (World.ownsRow_nil _ _ _ _) ⟨gg, 0, none⟩ 4 (c) ((enc a n).take 4) rfl (by simp [enc_length]) HT.out (fun u hu => enc_one a n u (List.mem_of_mem_take hu)) (by omega) (by simp [maxLen]) (by omega) (Nat.le_trans b1'.size hG.size) w2.heap.size rfl ?_
      intro g cap w3 hown hgr hat hlt
      exact hK _ w3 (grow_none hgr) (Rd.of_own hown (by omega))
    · have r0 : Rd w.heap.size zero4 (x 0) w2 := hp.1 rfl
      have r3 : Rd w.heap.size ((enc a n).drop 4) (x 3) w2 := hp.2.1 rfl
      have r6 : Rd w.heap.size ((enc a n).take 4) (x 6) w2 := hp.2.2.1 rfl
      have R0 := Lib.hid r0
      have R3 := Lib.hid r3
      have R6 := Lib.hid r6
      obtain ⟨g0, o0, n0, c0, e0, _⟩ := r0
      obtain ⟨g3, o3, n3, c3, e3, _⟩ := r3
      obtain ⟨g6, o6, n6, c6, e6, _⟩ := r6
      unfold PhiStep
      rw [if_pos (by rfl)]
      intro K hK
      simp only [fillFrom, Act.put, List.setIfInBounds_toArray, List.set_cons_zero, List.set_cons_succ, Nat.reduceAdd, e0, e3, e6] at hK ⊢
      have q0 : (Value.slice (some ⟨g0, o0, none⟩) n0 c0) = x 0 := e0.symm
      have q3 : (Value.slice (some ⟨g3, o3, none⟩) n3 c3) = x 3 := e3.symm
      have q6 : (Value.slice (some ⟨g6, o6, none⟩) n6 c6) = x 6 := e6.symm
      have Q := Lib.hid (And.intro q0 (And.intro q3 q6))
      clear e0 e3 e6 q0 q3 q6
      go_simp
      refine hK _ _ ((Grow.refl _).alloc _) ⟨w2.heap.size, _, _, _, rfl, by simp, Nat.le_trans b1'.size hG.size, by simp [go_sem]; rfl, by simp [go_sem]; rfl, by simp [go_sem]; rfl, ?_, ?_, ?_⟩
      · rw [Q.out.1]; exact R0.out.grow ((Grow.refl _).alloc _)
      · rw [Q.out.2.1]; exact R3.out.grow ((Grow.refl _).alloc _)
      · rw [Q.out.2.2]; exact R6.out.grow ((Grow.refl _).alloc _)
    · have r7 : Rd3 w.heap.size zero4 ((enc a n).drop 4) ((enc a n).take 4) (x 7) w2 := hp.1 rfl
      unfold PhiStep
      rw [if_pos (by rfl)]
      intro K hK
      simp only [fillFrom, Act.put, List.setIfInBounds_toArray, List.set_cons_zero, List.set_cons_succ, Nat.reduceAdd] at hK ⊢
      go_simp
      exact hK _ _ (Grow.refl _) r7
  · intro x w2 hG hP
    have r8 : Rd3 w.heap.size zero4 ((enc a n).drop 4) ((enc a n).take 4) (x 8) w2 := hP.2.2.2.2.2.2.2.2.1
    clear hP
    simp only [fillFrom, Act.put, List.setIfInBounds_toArray, List.set_cons_zero, List.set_cons_succ, Nat.reduceAdd]
    go_wp2
    go_ret
    exact ⟨_, rfl, r8, b1'.trans (Below.mono hG b1'.size)⟩
end Go.Proofs.Ytjgfhkgjaodjhaa
