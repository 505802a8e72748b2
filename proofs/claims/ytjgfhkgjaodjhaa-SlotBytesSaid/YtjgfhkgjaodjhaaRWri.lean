/-
  The walk of the reference's Writes.
-/
import Derived.Test.YtjgfhkgjaodjhaaWri
import Derived.Test.YtjgfhkgjaodjhaaApp
namespace Go.Proofs.Ytjgfhkgjaodjhaa
open Go.RowKit

def phi13 (B gg c : Nat) (es : List Value) : Nat → Value → World → Prop
  | 0 => Rd B zero4
  | 1 => fun v w => Empty0 v ∧ w.ownsRow B 5 1 v 0 []
  | 2 => fun v _ => v = .slice (some ⟨gg, 0, none⟩) 12 c
  | 3 => fun v _ => v = .slice (some ⟨gg, 4, none⟩) 8 (c - 4)
  | 4 => Rd B (es.drop 4)
  | 5 => fun v w => Empty0 v ∧ w.ownsRow B 5 1 v 0 []
  | 6 => fun v _ => v = .slice (some ⟨gg, 0, none⟩) 12 c
  | 7 => fun v _ => v = .slice (some ⟨gg, 0, none⟩) 4 c
  | 8 => Rd B (es.take 4)
  | _ => Rd3 B zero4 (es.drop 4) (es.take 4)
theorem phi13_grow (B gg c : Nat) (es : List Value) (i : Nat) (v : Value) (w w' : World) (hg : Grow w w') (h : phi13 B gg c es i v w) : phi13 B gg c es i v w' := by
  match i with
  | 0 => exact Rd.grow h hg
  | 1 => exact ⟨h.1, own_grow h.2 hg⟩
  | 2 => exact h
  | 3 => exact h
  | 4 => exact Rd.grow h hg
  | 5 => exact ⟨h.1, own_grow h.2 hg⟩
  | 6 => exact h
  | 7 => exact h
  | 8 => exact Rd.grow h hg
  | _ + 9 => exact Rd3.grow h hg

set_option maxHeartbeats 1000000 in
theorem rwrites_any (a n : Int) (w : World) :
    Calls Try.prog 13 #[.agg #[.int .i64 a, .int .i64 n]] w fun e w' => ∃ v, e = .returned v ∧ Rd3 w.heap.size zero4 ((enc a n).drop 4) ((enc a n).take 4) v w' ∧ Below w.heap.size w w' := by
  obtain ⟨i0, hi0, hz0, hz1, hz2⟩ := info_parts Try.info5
  go_enter Try.func13, Try.ntmps13
  go_wp2_with fail
  refine (renc_any a n _).mono ?_
  rintro e w1 ⟨gg, c, rfl, o1, b1⟩
  have b1' : Below w.heap.size w w1 := ((Below.refl _ _).alloc (Nat.le_refl _) _).trans (b1.mono (by simp))
  have R1 := Lib.hid (Rd.of_own (Joins.ownsRow_le (base' := w.heap.size) o1 (by simp)) (by omega))
  clear o1 b1
  go_wp2
  refine wp_region_phi' (phi13 w.heap.size gg c (enc a n)) (by kernel_rfl) (by kernel_rfl) (phi13_grow _ _ _ _) ?_ ?_
  · intro x w2 hG
    obtain ⟨g', o', n', c', hv, hl0, hl1, hl2, hl3, hl4, hl5⟩ := R1.out.grow hG
    injection hv with hv1 hv2 hv3
    injection hv1 with hv1
    injection hv1 with hv1 hv4 _
    subst hv1 hv4 hv3 hv2
    clear hl0
    have hc4 : ¬ c = 4 := by omega
    have hc5 : (4 : Int) ≤ (c : Int) := by omega
    have hd8 : ∀ j u, ((enc a n).drop 4)[j]? = some u → w2.cell? ((⟨gg, 4, none⟩ : Addr).add j) = some u := fun j u hu => by
      have := hl5 (4 + j) u (by simpa using hu)
      unfold Addr.add
      split <;> simp_all
    have ht4 : ∀ j u, ((enc a n).take 4)[j]? = some u → w2.cell? ((⟨gg, 0, none⟩ : Addr).add j) = some u := fun j u hu => by
      have := hl5 j u (by rw [List.getElem?_take] at hu; split at hu <;> simp_all)
      unfold Addr.add
      split <;> simp_all
    have HD := Lib.hid hd8
    have HT := Lib.hid ht4
    clear hd8 ht4 hl5
    refine ⟨fun hp => ?_, fun hp => ?_, fun hp => ?_, fun hp => ?_, fun hp => ?_, fun hp => ?_, fun hp => ?_, fun hp => ?_, fun hp => ?_, fun hp => ?_, fun hp => ?_, trivial⟩
    · unfold PhiStep
      rw [if_pos (by rfl)]
      intro K hK
      simp only [fillFrom, Act.put, List.setIfInBounds_toArray, List.set_cons_zero, List.set_cons_succ, Nat.reduceAdd] at hK ⊢
      go_simp
      refine hK _ _ ((Grow.refl _).alloc _) ?_
      refine ⟨w2.heap.size, 0, 4, 4, rfl, rfl, by simp, by simp [maxLen], Nat.le_trans b1'.size hG.size, by simp, fun j u hu => ?_⟩
      have := World.news_of_block (heap_alloc_new w2 (.cells #[.int .u8 0, .int .u8 0, .int .u8 0, .int .u8 0] 5)) j u hu
      unfold Addr.add at this
      split at this <;> simp_all
    · unfold PhiStep
      rw [if_pos (by rfl)]
      intro K hK
      simp only [fillFrom, Act.put, List.setIfInBounds_toArray, List.set_cons_zero, List.set_cons_succ, Nat.reduceAdd] at hK ⊢
      go_simp
      exact hK _ _ ((Grow.refl _).alloc _) ⟨.inr ⟨_, rfl⟩, ownsRow_empty0 w2 _ _ _ (Nat.le_trans b1'.size hG.size)⟩
    · unfold PhiStep
      rw [if_pos (by rfl)]
      intro K hK
      simp only [fillFrom, Act.put, List.setIfInBounds_toArray, List.set_cons_zero, List.set_cons_succ, Nat.reduceAdd] at hK ⊢
      go_simp
      exact hK _ _ (Grow.refl _) rfl
    · have h2 : x 2 = Value.slice (some ⟨gg, 0, none⟩) 12 c := hp.1 rfl
      unfold PhiStep
      rw [if_pos (by rfl)]
      intro K hK
      simp only [fillFrom, Act.put, List.setIfInBounds_toArray, List.set_cons_zero, List.set_cons_succ, Nat.reduceAdd, h2] at hK ⊢
      clear h2
      go_simp
      exact hK _ _ (Grow.refl _) rfl
    · obtain ⟨he, ho⟩ : Empty0 (x 1) ∧ w2.ownsRow w.heap.size 5 1 (x 1) 0 [] := hp.1 rfl
      have h3 : x 3 = Value.slice (some ⟨gg, 4, none⟩) 8 (c - 4) := hp.2.1 rfl
      unfold PhiStep
      rw [if_pos (by rfl)]
      intro K hK
      simp only [fillFrom, Act.put, List.setIfInBounds_toArray, List.set_cons_zero, List.set_cons_succ, Nat.reduceAdd, h3] at hK ⊢
      refine wp_append_fresh w2 (.tmp 7) (.tmp 9) 30 30 rfl w.heap.size 5 i0 _ 1 1 Try.underlying30 hi0 hz0 hz1 hz2 rfl (x 1) rfl he ho _ rfl 8 ((enc a n).drop 4) (Src.ofSlice w2 Try.underlying30 ⟨gg, 4, none⟩ 8 (c - 4) ((enc a n).drop 4) (by simp [enc_length]) HD.out (fun u hu => enc_one a n u (List.mem_of_mem_drop hu))) (by simp [maxLen]) (by omega) (Nat.le_trans b1'.size hG.size) ?_
      intro v' w3 hown hgr hf _
      obtain ⟨c3, rfl⟩ := hf (by omega)
      exact hK _ w3 hgr (Rd.of_own hown (by omega))
    · unfold PhiStep
      rw [if_pos (by rfl)]
      intro K hK
      simp only [fillFrom, Act.put, List.setIfInBounds_toArray, List.set_cons_zero, List.set_cons_succ, Nat.reduceAdd] at hK ⊢
      go_simp
      exact hK _ _ ((Grow.refl _).alloc _) ⟨.inr ⟨_, rfl⟩, ownsRow_empty0 w2 _ _ _ (Nat.le_trans b1'.size hG.size)⟩
    · unfold PhiStep
      rw [if_pos (by rfl)]
      intro K hK
      simp only [fillFrom, Act.put, List.setIfInBounds_toArray, List.set_cons_zero, List.set_cons_succ, Nat.reduceAdd] at hK ⊢
      go_simp
      exact hK _ _ (Grow.refl _) rfl
    · have h6 : x 6 = Value.slice (some ⟨gg, 0, none⟩) 12 c := hp.1 rfl
      unfold PhiStep
      rw [if_pos (by rfl)]
      intro K hK
      simp only [fillFrom, Act.put, List.setIfInBounds_toArray, List.set_cons_zero, List.set_cons_succ, Nat.reduceAdd, h6] at hK ⊢
      clear h6
      go_simp
      exact hK _ _ (Grow.refl _) rfl
    · obtain ⟨he, ho⟩ : Empty0 (x 5) ∧ w2.ownsRow w.heap.size 5 1 (x 5) 0 [] := hp.1 rfl
      have h7 : x 7 = Value.slice (some ⟨gg, 0, none⟩) 4 (c) := hp.2.1 rfl
      unfold PhiStep
      rw [if_pos (by rfl)]
      intro K hK
      simp only [fillFrom, Act.put, List.setIfInBounds_toArray, List.set_cons_zero, List.set_cons_succ, Nat.reduceAdd, h7] at hK ⊢
      refine wp_append_fresh w2 (.tmp 11) (.tmp 13) 30 30 rfl w.heap.size 5 i0 _ 1 1 Try.underlying30 hi0 hz0 hz1 hz2 rfl (x 5) rfl he ho _ rfl 4 ((enc a n).take 4) (Src.ofSlice w2 Try.underlying30 ⟨gg, 0, none⟩ 4 (c) ((enc a n).take 4) (by simp [enc_length]) HT.out (fun u hu => enc_one a n u (List.mem_of_mem_take hu))) (by simp [maxLen]) (by omega) (Nat.le_trans b1'.size hG.size) ?_
      intro v' w3 hown hgr hf _
      obtain ⟨c3, rfl⟩ := hf (by omega)
      exact hK _ w3 hgr (Rd.of_own hown (by omega))
    · have r0 : Rd w.heap.size zero4 (x 0) w2 := hp.1 rfl
      have r3 : Rd w.heap.size ((enc a n).drop 4) (x 4) w2 := hp.2.1 rfl
      have r6 : Rd w.heap.size ((enc a n).take 4) (x 8) w2 := hp.2.2.1 rfl
      have R0 := Lib.hid r0
      have R3 := Lib.hid r3
      have R6 := Lib.hid r6
      obtain ⟨g0, o0, n0, c0, e0, _⟩ := r0
      obtain ⟨g3, o3, n3, c3, e3, _⟩ := r3
      obtain ⟨g6, o6, n6, c6, e6, _⟩ := r6
      unfold PhiStep
      rw [if_pos (by rfl)]
      intro K hK
      simp only [fillFrom, Act.put, List.setIfInBounds_toArray, List.set_cons_zero, List.set_cons_succ, Nat.reduceAdd, e0, e3, e6] at hK ⊢
      have q0 : (Value.slice (some ⟨g0, o0, none⟩) n0 c0) = x 0 := e0.symm
      have q3 : (Value.slice (some ⟨g3, o3, none⟩) n3 c3) = x 4 := e3.symm
      have q6 : (Value.slice (some ⟨g6, o6, none⟩) n6 c6) = x 8 := e6.symm
      have Q := Lib.hid (And.intro q0 (And.intro q3 q6))
      clear e0 e3 e6 q0 q3 q6
      go_simp
      refine hK _ _ ((Grow.refl _).alloc _) ⟨w2.heap.size, _, _, _, rfl, by simp, Nat.le_trans b1'.size hG.size, by simp [go_sem]; rfl, by simp [go_sem]; rfl, by simp [go_sem]; rfl, ?_, ?_, ?_⟩
      · rw [Q.out.1]; exact R0.out.grow ((Grow.refl _).alloc _)
      · rw [Q.out.2.1]; exact R3.out.grow ((Grow.refl _).alloc _)
      · rw [Q.out.2.2]; exact R6.out.grow ((Grow.refl _).alloc _)
    · have r9 : Rd3 w.heap.size zero4 ((enc a n).drop 4) ((enc a n).take 4) (x 9) w2 := hp.1 rfl
      unfold PhiStep
      rw [if_pos (by rfl)]
      intro K hK
      simp only [fillFrom, Act.put, List.setIfInBounds_toArray, List.set_cons_zero, List.set_cons_succ, Nat.reduceAdd] at hK ⊢
      go_simp
      exact hK _ _ (Grow.refl _) r9
  · intro x w2 hG hP
    have r10 : Rd3 w.heap.size zero4 ((enc a n).drop 4) ((enc a n).take 4) (x 10) w2 := hP.2.2.2.2.2.2.2.2.2.2.1
    clear hP
    simp only [fillFrom, Act.put, List.setIfInBounds_toArray, List.set_cons_zero, List.set_cons_succ, Nat.reduceAdd]
    go_wp2
    go_ret
    exact ⟨_, rfl, r10, b1'.trans (Below.mono hG b1'.size)⟩
end Go.Proofs.Ytjgfhkgjaodjhaa
