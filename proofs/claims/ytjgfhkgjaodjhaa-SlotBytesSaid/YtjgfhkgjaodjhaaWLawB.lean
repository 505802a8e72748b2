/-
  The walk of SlotWrites where there are twelve bytes: the round of the loop.
-/
import Derived.Test.YtjgfhkgjaodjhaaWLawA
namespace Go.Proofs.Ytjgfhkgjaodjhaa
open Go.RowKit

theorem Rd.le {B B' : Nat} {xs : List Value} {v : Value} {w : World} (h : Rd B xs v w) (hB : B' ≤ B) : Rd B' xs v w := by
  obtain ⟨g, o, n, c, h1, h0, h2, h3, h4, h5⟩ := h
  exact ⟨g, o, n, c, h1, h0, h2, h3, Nat.le_trans hB h4, h5⟩
def phi14 (gb cb : Nat) (a n : Int) : Nat → Value → World → Prop
  | 0 => fun v _ => v = .slice (some ⟨gb, 0, none⟩) 12 cb
  | 1 => fun v _ => v = .string (strOf (enc a n))
  | 2 => fun v _ => v = .agg #[.int .i64 a, .int .i64 n]
  | 3 => Rd 0 (enc a n)
  | 4 => fun v _ => v = .string (strOf (enc a n))
  | _ => fun v _ => v = .bool true
theorem phi14_grow (gb cb : Nat) (a n : Int) (i : Nat) (v : Value) (w w' : World) (hg : Grow w w') (h : phi14 gb cb a n i v w) : phi14 gb cb a n i v w' := by
  match i with
  | 0 => exact h
  | 1 => exact h
  | 2 => exact h
  | 3 => exact Rd.grow h hg
  | 4 => exact h
  | _ + 5 => exact h

structure Nine (a b c d e f g h i : Prop) : Prop where
  f1 : a
  f2 : b
  f3 : c
  f4 : d
  f5 : e
  f6 : f
  f7 : g
  f8 : h
  f9 : i
structure Three (a b c : Prop) : Prop where
  f1 : a
  f2 : b
  f3 : c
theorem gb_trans {a b c : World} {g q : Nat} (h : a.grownBy b (some g)) (k : (b.drewN q).drew.grownBy c (some g)) : a.grownBy c (some g) :=
  ⟨k.os.trans h.os, k.tape.trans h.tape, k.output.trans h.output, Nat.le_trans h.size k.size, fun i hi hne => (k.block i (Nat.lt_of_lt_of_le hi h.size) hne).trans (h.block i hi hne)⟩

theorem addr_block (x : Addr) (j : Nat) : (x.add j).block = x.block := by unfold Addr.add; split <;> rfl

set_option maxHeartbeats 4000000 in
theorem wlaw_yes (a n : Int) (hn : I64 n) (bw ow cap : Nat) (zs : List Value) (hz : zs.length = 12) (w : World) (hw : bw < w.heap.size)
    (hc : ∀ j u, zs[j]? = some u → w.cell? ((⟨bw, ow, none⟩ : Addr).add j) = some u) (h1 : ∀ u ∈ zs, u.oneCell' = true) :
    Calls Try.prog 5 #[.agg #[.int .i64 a, .int .i64 n], .slice (some ⟨bw, ow, none⟩) 12 cap] w fun e w' => e = .returned (.bool true) ∧ Below w.heap.size w w' := by
  obtain ⟨i0, hi0, hz0, hz1, hz2⟩ := info_parts Try.info5
  have HC := Lib.hid hc
  clear hc
  go_enter Try.func5, Try.ntmps5
  go_wp2
  obtain ⟨W1, hW⟩ : ∃ W1, W1 = w.alloc (.cells #[.int .i64 a, .int .i64 n] 29) := ⟨_, rfl⟩
  have s0 : W1.cell? ⟨w.heap.size, 0, none⟩ = some (.int .i64 a) := by rw [hW]; simp [go_sem]
  have s1 : W1.cell? ⟨w.heap.size, 1, none⟩ = some (.int .i64 n) := by rw [hW]; simp [go_sem]
  have s2 : W1.heap.size = w.heap.size + 1 := by rw [hW]; simp
  have s3 : Below w.heap.size w W1 := by rw [hW]; exact (Below.refl _ _).alloc (Nat.le_refl _) _
  rw [← hW]
  have S2 := Lib.hid s2
  clear hW s2
  refine wp_region_phi' (phi5a w.heap.size a n) (by kernel_rfl) (by kernel_rfl) (phi5a_grow _ _ _) ?_ ?_
  · intro x w2 hG
    have t0 : w2.cell? ⟨w.heap.size, 0, none⟩ = some (.int .i64 a) := (Below.cell hG (p := ⟨w.heap.size, 0, none⟩) (by rw [S2.out]; simp)).trans s0
    have t1 : w2.cell? ⟨w.heap.size, 1, none⟩ = some (.int .i64 n) := (Below.cell hG (p := ⟨w.heap.size, 1, none⟩) (by rw [S2.out]; simp)).trans s1
    clear s0 s1
    refine ⟨fun hp => ?_, fun hp => ?_, fun hp => ?_, fun hp => ?_, fun hp => ?_, fun hp => ?_, trivial⟩
    · unfold PhiStep
      rw [if_pos (by rfl)]
      intro K hK
      simp only [fillFrom, Act.put, List.setIfInBounds_toArray, List.set_cons_zero, List.set_cons_succ, Nat.reduceAdd] at hK ⊢
      go_simp
      exact hK _ _ (Grow.refl _) rfl
    · have h0 : x 0 = Value.agg #[.int .i64 a, .int .i64 n] := hp.1 rfl
      unfold PhiStep
      rw [if_pos (by rfl)]
      intro K hK
      simp only [fillFrom, Act.put, List.setIfInBounds_toArray, List.set_cons_zero, List.set_cons_succ, Nat.reduceAdd, h0] at hK ⊢
      clear h0
      go_simp
      refine (writes_any a n hn w2).mono ?_
      rintro e w3 ⟨v, rfl, r, b⟩
      exact hK _ _ b (r.le (Nat.le_trans s3.size hG.size))
    · unfold PhiStep
      rw [if_pos (by rfl)]
      intro K hK
      simp only [fillFrom, Act.put, List.setIfInBounds_toArray, List.set_cons_zero, List.set_cons_succ, Nat.reduceAdd] at hK ⊢
      go_simp
      exact hK _ _ (Grow.refl _) rfl
    · have h2 : x 2 = Value.agg #[.int .i64 a, .int .i64 n] := hp.1 rfl
      unfold PhiStep
      rw [if_pos (by rfl)]
      intro K hK
      simp only [fillFrom, Act.put, List.setIfInBounds_toArray, List.set_cons_zero, List.set_cons_succ, Nat.reduceAdd, h2] at hK ⊢
      clear h2
      go_simp
      refine (rwrites_any a n w2).mono ?_
      rintro e w3 ⟨v, rfl, r, b⟩
      exact hK _ _ b (r.le (Nat.le_trans s3.size hG.size))
    · have r : Rd3 w.heap.size zero4 ((enc a n).drop 4) ((enc a n).take 4) (x 1) w2 := hp.1 rfl
      unfold PhiStep
      rw [if_pos (by rfl)]
      intro K hK
      simp only [fillFrom, Act.put, List.setIfInBounds_toArray, List.set_cons_zero, List.set_cons_succ, Nat.reduceAdd] at hK ⊢
      go_simp
      exact hK _ _ (Grow.refl _) r
    · have r : Rd3 w.heap.size zero4 ((enc a n).drop 4) ((enc a n).take 4) (x 3) w2 := hp.1 rfl
      unfold PhiStep
      rw [if_pos (by rfl)]
      intro K hK
      simp only [fillFrom, Act.put, List.setIfInBounds_toArray, List.set_cons_zero, List.set_cons_succ, Nat.reduceAdd] at hK ⊢
      go_simp
      exact hK _ _ (Grow.refl _) r
  · intro x w2 hG hP
    have r5 : Rd3 w.heap.size zero4 ((enc a n).drop 4) ((enc a n).take 4) (x 4) w2 := hP.2.2.2.2.1
    have r6 : Rd3 w.heap.size zero4 ((enc a n).drop 4) ((enc a n).take 4) (x 5) w2 := hP.2.2.2.2.2.1
    clear hP
    simp only [fillFrom, Act.put, List.setIfInBounds_toArray, List.set_cons_zero, List.set_cons_succ, Nat.reduceAdd]
    obtain ⟨g, v0, v1, v2, e5, g1, g2, c0, c1, c2, ⟨g00, o0, n0, p0, rfl, a00, a01, a02, a03, a04, a05⟩, ⟨g10, o1, n1, p1, rfl, a10, a11, a12, a13, a14, a15⟩, ⟨g20, o2, n2, p2, rfl, a20, a21, a22, a23, a24, a25⟩⟩ := r5
    obtain ⟨h, u0, u1, u2, e6, h1', h2, d0, d1, d2, ⟨h00, q0, m0, s0', rfl, b00, b01, b02, b03, b04, b05⟩, ⟨h10, q1, m1, s1', rfl, b10, b11, b12, b13, b14, b15⟩, ⟨h20, q2, m2, s2', rfl, b20, b21, b22, b23, b24, b25⟩⟩ := r6
    rw [e5, e6]
    have t0 : w2.cell? ⟨w.heap.size, 0, none⟩ = some (.int .i64 a) := (Below.cell hG (p := ⟨w.heap.size, 0, none⟩) (by rw [S2.out]; simp)).trans s0
    have t1 : w2.cell? ⟨w.heap.size, 1, none⟩ = some (.int .i64 n) := (Below.cell hG (p := ⟨w.heap.size, 1, none⟩) (by rw [S2.out]; simp)).trans s1
    have hb2 : Below w.heap.size w w2 := s3.trans (Below.mono hG s3.size)
    have hsz2 : w.heap.size + 1 ≤ w2.heap.size := by have := hG.size; have := S2.out; omega
    clear s0 s1 s3 hG S2 e5 e6
    have A0 := Lib.hid (And.intro a00 a05)
    have A1 := Lib.hid (And.intro a10 a15)
    have A2 := Lib.hid (And.intro a20 a25)
    have B0 := Lib.hid (And.intro b00 b05)
    have B1 := Lib.hid (And.intro b10 b15)
    have B2 := Lib.hid (And.intro b20 b25)
    clear a00 a05 a10 a15 a20 a25 b00 b05 b10 b15 b20 b25
    have src : Src Try.prog 1 30 (.slice (some ⟨bw, ow, none⟩) 12 cap) 12 zs (w2.alloc (.cells #[] 5)) := Src.ofSlice _ Try.underlying30 ⟨bw, ow, none⟩ 12 cap zs (by omega) (fun j u hu => by
      rw [World.cell?_alloc_lt w2 _ _ (by rw [addr_block]; show bw < _; omega), hb2.cell (by rw [addr_block]; exact hw)]
      exact HC.out j u hu) h1
    have own0 := ownsRow_empty0 w2 w.heap.size 5 1 hb2.size
    have SR := Lib.hid (And.intro src own0)
    clear src own0
    have hB3 : w.heap.size ≤ (w2.alloc (.cells #[] 5)).heap.size := by simp; omega
    go_wp2_with (at_builtin; refine wpList_append_fresh _ (by rfl) _ _ 30 30 (by rfl) w.heap.size 5 i0 _ 1 1 Try.underlying30 hi0 hz0 hz1 hz2 rfl _ (by rfl) (.inr ⟨w2.heap.size, rfl⟩) SR.out.2 _ (by rfl) 12 zs SR.out.1 (by simp [maxLen]) (by omega) hB3 ?_; intro v3 w3 hown3 hgr3 hf3 _; have H3 := Lib.hid (And.intro hown3 (And.intro hgr3 hf3)); clear hown3 hgr3 hf3)
    obtain ⟨hown3, hgr3, hf3⟩ := H3.out
    obtain ⟨cb, hv3⟩ := hf3 (by omega)
    clear H3 SR
    have hsz3 := hgr3.size
    simp only [World.size_alloc] at hsz3 hv3
    obtain ⟨gb, hgb⟩ : ∃ gb, gb = w2.heap.size + 1 := ⟨_, rfl⟩
    rw [← hgb] at hv3
    rw [hv3] at hown3 ⊢
    obtain ⟨hlt3a, hlt3b⟩ := hown3.lt gb rfl
    obtain ⟨cur, hcur, hle, hmx, hcs, htk⟩ : ∃ cur : Array Value, w3.heap[gb]? = some (.cells cur 5 (0, 0)) ∧ 12 ≤ cb ∧ cb ≤ maxLen ∧ cur.size = cb * 1 ∧ cur.toList.take (12 * 1) = zs := by
      rcases hown3.2 with ⟨h0, _⟩ | ⟨g', cap', cur, hv, _, hh, hnc, hmx, hcs, htk⟩
      · cases h0
      · injection hv with hv1 _ hv2
        injection hv1 with hv1
        injection hv1 with hv1
        subst hv1 hv2
        exact ⟨cur, hh, hnc, hmx, hcs, htk⟩
    obtain ⟨cur0, hcur0⟩ : ∃ cur0 : List Value, cur = cur0.toArray := ⟨cur.toList, by simp⟩
    have hl0 : 12 ≤ cur0.length := by rw [hcur0] at hcs; simp at hcs; omega
    rw [hcur0] at hcur
    have hsz5 : (Try.prog.info? 5).map (·.size) = some 1 := by kernel_rfl
    have hgbl : w2.heap.size < gb := by omega
    have hgb3 : gb < w3.heap.size := hlt3b
    clear hcs htk hcur0 hv3 hown3 hf3 hgb
    obtain ⟨wY, hY⟩ : ∃ wY, wY = w3.alloc (.cells #[.int .i64 0, .int .i64 4, .int .i64 0] 3) := ⟨_, rfl⟩
    have G3 : Grow w2 wY := by rw [hY]; exact (((Grow.refl w2).alloc _).trans hgr3).alloc _
    have old : ∀ p : Addr, p.block < w2.heap.size → wY.cell? p = w2.cell? p := fun p hp => Below.cell G3 hp
    have Y := Lib.hid (⟨(old ⟨g, 0, none⟩ g1).trans c0, (old ⟨g, 1, none⟩ g1).trans c1, (old ⟨g, 2, none⟩ g1).trans c2, (old ⟨h, 0, none⟩ h1').trans d0, (old ⟨h, 1, none⟩ h1').trans d1, (old ⟨h, 2, none⟩ h1').trans d2,
      by rw [hY]; simp [go_sem], by rw [hY]; simp [go_sem], by rw [hY]; simp [go_sem]⟩ : Nine _ _ _ _ _ _ (wY.cell? ⟨w3.heap.size, 0, none⟩ = some (.int .i64 0)) (wY.cell? ⟨w3.heap.size, 1, none⟩ = some (.int .i64 4)) (wY.cell? ⟨w3.heap.size, 2, none⟩ = some (.int .i64 0)))
    have YA := Lib.hid (⟨fun j u hu => (old ⟨g00, o0 + j, none⟩ a04).trans (A0.out.2 j u hu), fun j u hu => (old ⟨g10, o1 + j, none⟩ a14).trans (A1.out.2 j u hu), fun j u hu => (old ⟨g20, o2 + j, none⟩ a24).trans (A2.out.2 j u hu)⟩ : Three _ _ _)
    have YB := Lib.hid (⟨fun j u hu => (old ⟨h00, q0 + j, none⟩ b04).trans (B0.out.2 j u hu), fun j u hu => (old ⟨h10, q1 + j, none⟩ b14).trans (B1.out.2 j u hu), fun j u hu => (old ⟨h20, q2 + j, none⟩ b24).trans (B2.out.2 j u hu)⟩ : Three _ _ _)
    have T0 := (old ⟨w.heap.size, 0, none⟩ (by simp; omega)).trans t0
    have T1 := (old ⟨w.heap.size, 1, none⟩ (by simp; omega)).trans t1
    have hcurY : wY.heap[gb]? = some (.cells cur0.toArray 5 (0, 0)) := by rw [hY, Below.heap_alloc _ _ _ hlt3b]; exact hcur
    have hszY : w3.heap.size < wY.heap.size := by rw [hY]; simp
    have hbY : Below w.heap.size w wY := hb2.trans (Below.mono G3 hb2.size)
    have FAR := Lib.hid (fun (wr : World) (hgr : wY.grownBy wr (some gb)) (p : Addr) (h1 : p.block < wY.heap.size) (h2 : p.block ≠ gb) => (World.cell?_of_block (hgr.block p.block h1 (by simpa using h2)) : wr.cell? p = wY.cell? p))
    rw [← hY]
    have HCY := Lib.hid hcurY
    have hc0 : ¬ cb = 0 := by omega
    have hc4 : ¬ cb = 4 := by omega
    have hc12 : (4 : Int) ≤ (12 : Int) := by omega
    clear hY old c0 c1 c2 d0 d1 d2 t0 t1 hcur G3 hgr3 hcurY
    go_loopw [9] (fun i wr => ∃ k : Nat, k ≤ 3 ∧ i = .int .i64 k ∧ wr.heap[gb]? = some (.cells (curK a n cur0 k).toArray 5 (0, 0)) ∧ wY.grownBy wr (some gb)) (fun i _ => 3 - (intOf i).toNat)
    case atStart => exact ⟨0, by omega, rfl, HCY.out, World.grownBy.refl _ _⟩
    case round =>
      obtain ⟨k, hk, rfl, hg, hgr⟩ := hrel
      have HG := Lib.hid hg
      clear hg HCY
      obtain rfl | rfl | rfl | rfl : k = 0 ∨ k = 1 ∨ k = 2 ∨ k = 3 := by omega
      · have fw : wr.cell? ⟨g, 0, none⟩ = some (.slice (some ⟨g00, o0, none⟩) n0 p0) := (FAR.out wr hgr ⟨g, 0, none⟩ (by simp; omega) (by simp; omega)).trans Y.out.f1
        have fx : wr.cell? ⟨h, 0, none⟩ = some (.slice (some ⟨h00, q0, none⟩) m0 s0') := (FAR.out wr hgr ⟨h, 0, none⟩ (by simp; omega) (by simp; omega)).trans Y.out.f4
        have fa : wr.cell? ⟨w3.heap.size, 0, none⟩ = some (.int .i64 0) := (FAR.out wr hgr ⟨w3.heap.size, 0, none⟩ (by simp; omega) (by simp; omega)).trans Y.out.f7
        have ra : ∀ j u, zero4[j]? = some u → wr.cell? ⟨g00, o0 + j, none⟩ = some u := fun j u hu => (FAR.out wr hgr ⟨g00, o0 + j, none⟩ (by simp; omega) (by simp; omega)).trans (YA.out.f1 j u hu)
        have rb : ∀ j u, zero4[j]? = some u → wr.cell? ⟨h00, q0 + j, none⟩ = some u := fun j u hu => (FAR.out wr hgr ⟨h00, q0 + j, none⟩ (by simp; omega) (by simp; omega)).trans (YB.out.f1 j u hu)
        have cva : ∀ q, (convert 30 9 (.slice (some ⟨g00, o0, none⟩) n0 p0)).run Try.prog (wr.drewN q) = .ok (.string (strOf zero4)) (wr.drewN q) := fun q => conv_cells A0.out.1 allU8_zero4 (fun j u hu => by simpa using ra j u hu)
        have cvb : ∀ q, (convert 30 9 (.slice (some ⟨h00, q0, none⟩) m0 s0')).run Try.prog (wr.drewN q) = .ok (.string (strOf zero4)) (wr.drewN q) := fun q => conv_cells B0.out.1 allU8_zero4 (fun j u hu => by simpa using rb j u hu)
        have RA := Lib.hid ra
        clear ra rb
        go_wp2
        go_quiet (fail)
        clear cva cvb
        go_wp2
        have CS : zero4.length = Nat.min n0 12 := by rw [← A0.out.1]; rfl
        have SRC : ∀ j u, zero4[j]? = some u → ((wr.drewN nq).drew).cell? ((⟨g00, o0, none⟩ : Addr).add j) = some u := fun j u hu => by
          have := RA.out j u hu
          unfold Addr.add
          split <;> simp_all
        have HGq : ((wr.drewN nq).drew).heap[gb]? = some (.cells cur0.toArray 5 (0, 0)) := HG.out
        have FIT : 0 + zero4.length ≤ cur0.length := by have hL : cur0.length = cur0.length := curK_length a n cur0 hl0 0; rw [hL]; simp [zero4]; omega
        have PK := Lib.hid (And.intro CS (And.intro SRC (And.intro HGq FIT)))
        clear CS SRC HGq FIT
        go_region_law ((refine step_copy_own (by rfl) _ _ 30 30 (by rfl) 5 Try.underlying30 hsz5 gb 0 12 cb ⟨g00, o0, none⟩ n0 p0 (by rfl) (by rfl) cur0 5 PK.out.2.2.1 zero4 PK.out.1 PK.out.2.1 PK.out.2.2.2 (AllU8.one allU8_zero4) ?_; intro w4 hg4 hb4))
        all_goals
          have hb5 : wY.grownBy w4 (some gb) := gb_trans hgr hb4
          clear hb4 fw fx fa
          go_wp2
          go_roundw
          case rel => exact ⟨1, by omega, rfl, hg4.out, hb5⟩
          case measure => simp [intOf]
      · have fw : wr.cell? ⟨g, 1, none⟩ = some (.slice (some ⟨g10, o1, none⟩) n1 p1) := (FAR.out wr hgr ⟨g, 1, none⟩ (by simp; omega) (by simp; omega)).trans Y.out.f2
        have fx : wr.cell? ⟨h, 1, none⟩ = some (.slice (some ⟨h10, q1, none⟩) m1 s1') := (FAR.out wr hgr ⟨h, 1, none⟩ (by simp; omega) (by simp; omega)).trans Y.out.f5
        have fa : wr.cell? ⟨w3.heap.size, 1, none⟩ = some (.int .i64 4) := (FAR.out wr hgr ⟨w3.heap.size, 1, none⟩ (by simp; omega) (by simp; omega)).trans Y.out.f8
        have ra : ∀ j u, ((enc a n).drop 4)[j]? = some u → wr.cell? ⟨g10, o1 + j, none⟩ = some u := fun j u hu => (FAR.out wr hgr ⟨g10, o1 + j, none⟩ (by simp; omega) (by simp; omega)).trans (YA.out.f2 j u hu)
        have rb : ∀ j u, ((enc a n).drop 4)[j]? = some u → wr.cell? ⟨h10, q1 + j, none⟩ = some u := fun j u hu => (FAR.out wr hgr ⟨h10, q1 + j, none⟩ (by simp; omega) (by simp; omega)).trans (YB.out.f2 j u hu)
        have cva : ∀ q, (convert 30 9 (.slice (some ⟨g10, o1, none⟩) n1 p1)).run Try.prog (wr.drewN q) = .ok (.string (strOf ((enc a n).drop 4))) (wr.drewN q) := fun q => conv_cells A1.out.1 (fun u hu => allU8_enc a n u (List.mem_of_mem_drop hu)) (fun j u hu => by simpa using ra j u hu)
        have cvb : ∀ q, (convert 30 9 (.slice (some ⟨h10, q1, none⟩) m1 s1')).run Try.prog (wr.drewN q) = .ok (.string (strOf ((enc a n).drop 4))) (wr.drewN q) := fun q => conv_cells B1.out.1 (fun u hu => allU8_enc a n u (List.mem_of_mem_drop hu)) (fun j u hu => by simpa using rb j u hu)
        have RA := Lib.hid ra
        clear ra rb
        go_wp2
        go_quiet (fail)
        clear cva cvb
        go_wp2
        have CS : ((enc a n).drop 4).length = Nat.min n1 8 := by rw [← A1.out.1, show ((enc a n).drop 4).length = 8 from by simp [enc_length]]; rfl
        have SRC : ∀ j u, ((enc a n).drop 4)[j]? = some u → ((wr.drewN nq).drew).cell? ((⟨g10, o1, none⟩ : Addr).add j) = some u := fun j u hu => by
          have := RA.out j u hu
          unfold Addr.add
          split <;> simp_all
        have HGq : ((wr.drewN nq).drew).heap[gb]? = some (.cells (cur1 cur0).toArray 5 (0, 0)) := HG.out
        have FIT : 4 + ((enc a n).drop 4).length ≤ (cur1 cur0).length := by have hL : (cur1 cur0).length = cur0.length := curK_length a n cur0 hl0 1; rw [hL]; have e := enc_length a n; simp [e]; omega
        have PK := Lib.hid (And.intro CS (And.intro SRC (And.intro HGq FIT)))
        clear CS SRC HGq FIT
        go_region_law ((refine step_copy_own (by rfl) _ _ 30 30 (by rfl) 5 Try.underlying30 hsz5 gb 4 8 (cb - 4) ⟨g10, o1, none⟩ n1 p1 (by rfl) (by rfl) (cur1 cur0) 5 PK.out.2.2.1 ((enc a n).drop 4) PK.out.1 PK.out.2.1 PK.out.2.2.2 (AllU8.one (fun u hu => allU8_enc a n u (List.mem_of_mem_drop hu))) ?_; intro w4 hg4 hb4))
        all_goals
          have hb5 : wY.grownBy w4 (some gb) := gb_trans hgr hb4
          clear hb4 fw fx fa
          go_wp2
          go_roundw
          case rel => exact ⟨2, by omega, rfl, hg4.out, hb5⟩
          case measure => simp [intOf]
      · have fw : wr.cell? ⟨g, 2, none⟩ = some (.slice (some ⟨g20, o2, none⟩) n2 p2) := (FAR.out wr hgr ⟨g, 2, none⟩ (by simp; omega) (by simp; omega)).trans Y.out.f3
        have fx : wr.cell? ⟨h, 2, none⟩ = some (.slice (some ⟨h20, q2, none⟩) m2 s2') := (FAR.out wr hgr ⟨h, 2, none⟩ (by simp; omega) (by simp; omega)).trans Y.out.f6
        have fa : wr.cell? ⟨w3.heap.size, 2, none⟩ = some (.int .i64 0) := (FAR.out wr hgr ⟨w3.heap.size, 2, none⟩ (by simp; omega) (by simp; omega)).trans Y.out.f9
        have ra : ∀ j u, ((enc a n).take 4)[j]? = some u → wr.cell? ⟨g20, o2 + j, none⟩ = some u := fun j u hu => (FAR.out wr hgr ⟨g20, o2 + j, none⟩ (by simp; omega) (by simp; omega)).trans (YA.out.f3 j u hu)
        have rb : ∀ j u, ((enc a n).take 4)[j]? = some u → wr.cell? ⟨h20, q2 + j, none⟩ = some u := fun j u hu => (FAR.out wr hgr ⟨h20, q2 + j, none⟩ (by simp; omega) (by simp; omega)).trans (YB.out.f3 j u hu)
        have cva : ∀ q, (convert 30 9 (.slice (some ⟨g20, o2, none⟩) n2 p2)).run Try.prog (wr.drewN q) = .ok (.string (strOf ((enc a n).take 4))) (wr.drewN q) := fun q => conv_cells A2.out.1 (fun u hu => allU8_enc a n u (List.mem_of_mem_take hu)) (fun j u hu => by simpa using ra j u hu)
        have cvb : ∀ q, (convert 30 9 (.slice (some ⟨h20, q2, none⟩) m2 s2')).run Try.prog (wr.drewN q) = .ok (.string (strOf ((enc a n).take 4))) (wr.drewN q) := fun q => conv_cells B2.out.1 (fun u hu => allU8_enc a n u (List.mem_of_mem_take hu)) (fun j u hu => by simpa using rb j u hu)
        have RA := Lib.hid ra
        clear ra rb
        go_wp2
        go_quiet (fail)
        clear cva cvb
        go_wp2
        have CS : ((enc a n).take 4).length = Nat.min n2 12 := by rw [← A2.out.1, show ((enc a n).take 4).length = 4 from by simp [enc_length]]; rfl
        have SRC : ∀ j u, ((enc a n).take 4)[j]? = some u → ((wr.drewN nq).drew).cell? ((⟨g20, o2, none⟩ : Addr).add j) = some u := fun j u hu => by
          have := RA.out j u hu
          unfold Addr.add
          split <;> simp_all
        have HGq : ((wr.drewN nq).drew).heap[gb]? = some (.cells (cur2 a n cur0).toArray 5 (0, 0)) := HG.out
        have FIT : 0 + ((enc a n).take 4).length ≤ (cur2 a n cur0).length := by have hL : (cur2 a n cur0).length = cur0.length := curK_length a n cur0 hl0 2; rw [hL]; have e := enc_length a n; simp [e]; omega
        have PK := Lib.hid (And.intro CS (And.intro SRC (And.intro HGq FIT)))
        clear CS SRC HGq FIT
        go_region_law ((refine step_copy_own (by rfl) _ _ 30 30 (by rfl) 5 Try.underlying30 hsz5 gb 0 12 cb ⟨g20, o2, none⟩ n2 p2 (by rfl) (by rfl) (cur2 a n cur0) 5 PK.out.2.2.1 ((enc a n).take 4) PK.out.1 PK.out.2.1 PK.out.2.2.2 (AllU8.one (fun u hu => allU8_enc a n u (List.mem_of_mem_take hu))) ?_; intro w4 hg4 hb4))
        all_goals
          have hb5 : wY.grownBy w4 (some gb) := gb_trans hgr hb4
          clear hb4 fw fx fa
          go_wp2
          go_roundw
          case rel => exact ⟨3, by omega, rfl, hg4.out, hb5⟩
          case measure => simp [intOf]
      · have R0 := (FAR.out wr hgr ⟨w.heap.size, 0, none⟩ (by simp; omega) (by simp; omega)).trans T0
        have R1 := (FAR.out wr hgr ⟨w.heap.size, 1, none⟩ (by simp; omega) (by simp; omega)).trans T1
        have ROW := Lib.hid (fun (j : Nat) (u : Value) (hu : (enc a n)[j]? = some u) => (show wr.cell? ⟨gb, 0 + j, none⟩ = some u from by
          rw [cell_of_row wr gb (0 + j) _ 5 (0, 0) HG.out]
          have hj : j < 12 := by have := (List.getElem?_eq_some_iff.1 hu).1; rw [enc_length] at this; exact this
          rw [← cur3_take a n cur0 hl0, List.getElem?_take_of_lt hj] at hu
          simpa [curK] using hu))
        have hgbr : gb < wr.heap.size := by have := hgr.size; omega
        have hw0 : w.heap.size < wr.heap.size := by have := hgr.size; omega
        have hbr : Below w.heap.size w wr := hbY.grown hgr hbY.size (fun k hk => by injection hk; omega)
        clear FAR Y YA YB A0 A1 A2 B0 B1 B2 HG T0 T1
        go_wp2
        refine wp_region_phi' (phi14 gb cb a n) (by kernel_rfl) (by kernel_rfl) (phi14_grow _ _ _ _) ?_ ?_
        · intro x wq hG
          refine ⟨fun hp => ?_, fun hp => ?_, fun hp => ?_, fun hp => ?_, fun hp => ?_, fun hp => ?_, fun hp => ?_, fun hp => ?_, fun hp => ?_, fun hp => ?_, trivial⟩
          · unfold PhiStep
            rw [if_pos (by rfl)]
            intro K hK
            simp only [fillFrom, Act.put, List.setIfInBounds_toArray, List.set_cons_zero, List.set_cons_succ, Nat.reduceAdd] at hK ⊢
            go_simp
            exact hK _ _ (Grow.refl _) rfl
          · have h0 : x 0 = Value.slice (some ⟨gb, 0, none⟩) 12 cb := hp.1 rfl
            unfold PhiStep
            rw [if_pos (by rfl)]
            intro K hK
            simp only [fillFrom, Act.put, List.setIfInBounds_toArray, List.set_cons_zero, List.set_cons_succ, Nat.reduceAdd, h0] at hK ⊢
            clear h0
            have cv := conv_cells (w := wq) (c := cb) (enc_length a n) (allU8_enc a n) (fun j u hu => (Below.cell hG (p := ⟨gb, 0 + j, none⟩) hgbr).trans (ROW.out j u hu))
            go_simp
            exact hK _ _ (Grow.refl _) rfl
          · unfold PhiStep
            rw [if_pos (by rfl)]
            intro K hK
            simp only [fillFrom, Act.put, List.setIfInBounds_toArray, List.set_cons_zero, List.set_cons_succ, Nat.reduceAdd] at hK ⊢
            have v0 := (Below.cell hG (p := ⟨w.heap.size, 0, none⟩) hw0).trans R0
            have v1 := (Below.cell hG (p := ⟨w.heap.size, 1, none⟩) hw0).trans R1
            go_simp
            exact hK _ _ (Grow.refl _) rfl
          · have h2 : x 2 = Value.agg #[.int .i64 a, .int .i64 n] := hp.1 rfl
            unfold PhiStep
            rw [if_pos (by rfl)]
            intro K hK
            simp only [fillFrom, Act.put, List.setIfInBounds_toArray, List.set_cons_zero, List.set_cons_succ, Nat.reduceAdd, h2] at hK ⊢
            clear h2
            go_simp
            refine (enc_any a n hn wq).mono ?_
            rintro e w5 ⟨g5, c5, rfl, o5, b5⟩
            exact hK _ _ b5 (Rd.of_own o5 (by omega) |>.le (Nat.zero_le _))
          · obtain ⟨g5, o5, n5, c5, h3, f1, f2, f3, f4, f5, f6⟩ : Rd 0 (enc a n) (x 3) wq := hp.1 rfl
            have cv := conv_cells (w := wq) (c := c5) f1 (allU8_enc a n) f6
            unfold PhiStep
            rw [if_pos (by rfl)]
            intro K hK
            simp only [fillFrom, Act.put, List.setIfInBounds_toArray, List.set_cons_zero, List.set_cons_succ, Nat.reduceAdd, h3] at hK ⊢
            clear h3 f1 f2 f3 f4 f5 f6
            go_simp
            exact hK _ _ (Grow.refl _) rfl
          · have h1 : x 1 = Value.string (strOf (enc a n)) := hp.1 rfl
            have h4 : x 4 = Value.string (strOf (enc a n)) := hp.2.1 rfl
            unfold PhiStep
            rw [if_pos (by rfl)]
            intro K hK
            simp only [fillFrom, Act.put, List.setIfInBounds_toArray, List.set_cons_zero, List.set_cons_succ, Nat.reduceAdd, h1, h4] at hK ⊢
            clear h1 h4
            go_simp
            exact hK _ _ (Grow.refl _) rfl
          · have h5 : x 5 = Value.bool true := hp.1 rfl
            unfold PhiStep
            rw [if_pos (by rfl)]
            intro K hK
            simp only [fillFrom, Act.put, List.setIfInBounds_toArray, List.set_cons_zero, List.set_cons_succ, Nat.reduceAdd, h5] at hK ⊢
            clear h5
            go_simp
            exact hK _ _ (Grow.refl _) rfl
          · have h6 : x 6 = Value.bool true := hp.1 rfl
            unfold PhiStep
            rw [if_pos (by simp only [fillFrom, Act.put, List.setIfInBounds_toArray, List.set_cons_zero, List.set_cons_succ, Nat.reduceAdd, h6]; rfl)]
            intro K hK
            simp only [fillFrom, Act.put, List.setIfInBounds_toArray, List.set_cons_zero, List.set_cons_succ, Nat.reduceAdd, h6] at hK ⊢
            clear h6
            go_simp
            refine (known_any wq).mono ?_
            rintro e w5 ⟨rfl, b5⟩
            exact hK _ _ b5 rfl
          · have h6 : x 6 = Value.bool true := hp.1 rfl
            have h7 : x 7 = Value.bool true := hp.2.1 rfl
            unfold PhiStep
            rw [if_pos (by rfl)]
            intro K hK
            simp only [fillFrom, Act.put, List.setIfInBounds_toArray, List.set_cons_zero, List.set_cons_succ, Nat.reduceAdd, h6, h7] at hK ⊢
            clear h6 h7
            go_simp
            exact hK _ _ (Grow.refl _) rfl
          · have h8 : x 8 = Value.bool true := hp.1 rfl
            unfold PhiStep
            rw [if_pos (by rfl)]
            intro K hK
            simp only [fillFrom, Act.put, List.setIfInBounds_toArray, List.set_cons_zero, List.set_cons_succ, Nat.reduceAdd, h8] at hK ⊢
            clear h8
            go_simp
            exact hK _ _ (Grow.refl _) rfl
        · intro x wq hG hP
          have h9 : x 9 = Value.bool true := hP.2.2.2.2.2.2.2.2.2.1
          clear hP
          simp only [fillFrom, Act.put, List.setIfInBounds_toArray, List.set_cons_zero, List.set_cons_succ, Nat.reduceAdd, h9]
          go_wp2
          go_ret
          exact ⟨rfl, hbr.trans (Below.mono hG hbr.size)⟩
end Go.Proofs.Ytjgfhkgjaodjhaa
