/-
  The walk of Compile.
-/
import Derived.Test.YtldcbkememonaaaPe

namespace Go.Proofs.Ytldcbkememonaaa
open Go.RowKit
set_option linter.unusedVariables false
set_option linter.unusedSimpArgs false

/-- what Compile leaves -/
def CompPost (s : ByteArray) (w : World) (e : Ending) (w' : World) : Prop :=
  ∃ lv, e = .returned (.tuple #[.agg #[.int .i64 (compF s).1, lv], .int .i64 (compF s).2.2]) ∧ w'.ownsRow w.heap.size 76 4 lv (compF s).2.1.length (cellsI (compF s).2.1) ∧ Grow w w'
/-- where the reader began -/
theorem ra_new (s : ByteArray) (w : World) (B : Nat) (hB : B ≤ w.heap.size) : RA B w.heap.size s ⟨0, 0, 0, 0, []⟩ (.slice none 0 0) (w.alloc (.cells #[.string s, .int .i64 0, .int .i64 0, .int .i64 0, .int .i64 0, .slice none 0 0] 97)) :=
  ⟨heap_alloc_new w _, World.ownsRow_nil _ B 76 4, hB⟩
set_option maxRecDepth 100000 in
set_option maxHeartbeats 4000000 in
theorem compile_any (s : ByteArray) (w : World) (hs : s.size ≤ 10000) (SO : SetOk s) : Calls Try.prog 34 #[.string s] w (CompPost s w) := by
  by_cases h0 : (4096 : Int) < (s.size : Int)
  · have e : compF s = (0, [], 13) := by unfold compF; rw [if_pos (by omega)]
    unfold CompPost
    rw [e]
    go_enter Try.func34, Try.ntmps34
    have zw : w.heap.size < (w.alloc (.cells #[.int .i64 0, .slice none 0 0] 33)).heap.size := by simp
    go_wp2
    refine bodyPost_ret (v := .tuple #[.agg #[.int .i64 0, .slice none 0 0], .int .i64 13]) (by simp [results, Try.results34, go_sem]) rfl ?_
    exact ⟨_, rfl, World.ownsRow_nil _ _ _ _, (Grow.refl w).alloc _⟩
  · obtain ⟨C, hC⟩ : ∃ C, C = compF s := ⟨_, rfl⟩
    unfold CompPost
    rw [← hC]
    obtain ⟨r, hr⟩ : ∃ r, r = w.heap.size + 1 := ⟨_, rfl⟩
    obtain ⟨W0, hW0⟩ : ∃ W0, W0 = w.alloc (.cells #[.int .i64 0, .slice none 0 0] 33) := ⟨_, rfl⟩
    obtain ⟨W1, hW1⟩ : ∃ W1, W1 = W0.alloc (.cells #[.string s, .int .i64 0, .int .i64 0, .int .i64 0, .int .i64 0, .slice none 0 0] 97) := ⟨_, rfl⟩
    have z0 : W0.heap.size = r := by rw [hW0, hr]; simp
    have R1 := Lib.hid (show RA w.heap.size r s ⟨0, 0, 0, 0, []⟩ (.slice none 0 0) W1 from by rw [hW1, ← z0]; exact ra_new s W0 _ (by omega))
    have RB := Lib.hid (show W1.heap[w.heap.size]? = some (.cells #[.int .i64 0, .slice none 0 0] 33 (0, 0)) from by
      rw [hW1, heap_alloc_old _ _ (by omega), hW0]; exact heap_alloc_new w _)
    have G1 := Lib.hid (show Grow w W1 from by rw [hW1, hW0]; exact ((Grow.refl w).alloc _).alloc _)
    have zW : W1.heap.size = w.heap.size + 2 := by rw [hW1]; simp; omega
    have L1 := Lib.hid (lay_r w.heap.size r s ⟨0, 0, 0, 0, []⟩ (.slice none 0 0) ⟨4, 0, 0, e0⟩ W1 R1.out (by simp))
    have HC := Lib.hid hC
    clear hC
    go_enter Try.func34, Try.ntmps34
    go_wp2_with fail
    rw [← hW0, ← hr, ← hW1]
    have HR := Lib.hid hr
    clear hW0 hW1 hr z0
    refine L1.out.mono ?_
    rintro e w2 ⟨rfl, v2, s2⟩
    have S2 := Lib.hid s2
    obtain ⟨st1, hst1⟩ : ∃ st1 : RS, st1 = ⟨0, 0, 0, 0, [⟨4, 0, 0, e0⟩]⟩ := ⟨_, rfl⟩
    have hra : RA w.heap.size r s st1 v2 w2 := by rw [hst1]; exact s2.ra
    have hgd : Good s st1 := by rw [hst1]; exact ⟨Nat.zero_le _, by simp, by simp, by simp, Nat.le_refl _⟩
    have he1 : st1.err = 0 := by rw [hst1]
    have hd1 : st1.deep ≤ 64 := by rw [hst1]; simp
    have ha1 : s.size - st1.at_ < s.size + 1 := by omega
    obtain ⟨X, hX⟩ : ∃ X, X = waysF s (s.size + 1) st1 := ⟨_, rfl⟩
    have WY : Hid (Calls Try.prog 44 #[.pointer (some ⟨r, 0, none⟩)] w2 (RPost w.heap.size r s X v2 w2)) := Lib.hid (by rw [hX]; exact ways_ok w.heap.size r s hs SO (s.size + 1) st1 v2 w2 hra hgd he1 hd1 ha1)
    have AD : Hid (Adv s st1 X) := Lib.hid (by rw [hX]; exact waysF_adv s (s.size + 1) st1 hgd hd1 he1)
    have HST := Lib.hid hst1
    have S2 : Hid (Stp w.heap.size r s (.slice none 0 0) W1 st1 v2 w2) := Lib.hid (by rw [hst1]; exact S2.out)
    clear hra hgd he1 hd1 ha1 hst1
    have HX := Lib.hid hX
    clear hX s2
    go_wp2_with fail
    refine WY.out.mono ?_
    rintro e w3 ⟨rfl, v3, s3⟩
    have S3 := Lib.hid (S2.out.trans s3)
    have hat := AD.out.size
    obtain ⟨p, hpp⟩ : ∃ p, p = X.at_ := ⟨_, rfl⟩
    obtain ⟨E, hE⟩ : ∃ E, E = X.err := ⟨_, rfl⟩
    have d1 := S3.out.ra.c1
    have d3 := S3.out.ra.c3
    rw [← hpp] at d1 hat
    rw [← hE] at d3
    have HP := Lib.hid hpp
    have HE := Lib.hid hE
    have k0 : (0 : Int) ≤ (p : Int) := by omega
    clear hpp hE s3
    obtain ⟨Y, hY⟩ : ∃ Y, Y = if X.err = 0 ∧ X.at_ < s.size then X.bad 8 else X := ⟨_, rfl⟩
    have HY := Lib.hid hY
    have hCY : C = (let st2 := (Y.lay ⟨4, 1, 0, e0⟩).lay ⟨7, 0, 0, e0⟩; if st2.err ≠ 0 then (0, [], st2.err) else if 1024 < st2.L.length then (0, [], 13) else (st2.grp, st2.L, 0)) := by
      rw [HC.out]
      unfold compF
      rw [if_neg (by omega), ← HST.out, ← HX.out, hY]
    have HCY := Lib.hid hCY
    clear hY hCY
    have XL : X.L.length ≤ 30000 := by
      have h1 := AD.out.grow
      have h2 := AD.out.size
      rw [HST.out] at h1
      simp only [List.length_singleton] at h1
      omega
    have YL : Hid (Y.L.length ≤ 30000) := Lib.hid (by
      rw [HY.out]
      split
      · unfold RS.bad; split <;> exact XL
      · exact XL)
    have CASES : (E == 0) = false ∧ Y = X ∨ (E == 0) = true ∧ ¬ (p : Int) < (s.size : Int) ∧ Y = X ∨ (E == 0) = true ∧ (p : Int) < (s.size : Int) ∧ Y = X.bad 8 := by
      cases tE : (E == 0) with
      | false => exact .inl ⟨rfl, by rw [HY.out, if_neg (by rw [← HE.out]; simp at tE; simp [tE])]⟩
      | true =>
        have hE0 : E = 0 := by simpa using tE
        by_cases hp : (p : Int) < (s.size : Int)
        · exact .inr (.inr ⟨rfl, hp, by rw [HY.out, if_pos (by rw [← HE.out, ← HP.out]; exact ⟨hE0, by omega⟩)]⟩)
        · exact .inr (.inl ⟨rfl, hp, by rw [HY.out, if_neg (by rw [← HP.out]; omega)]⟩)
    clear XL
    rcases CASES with ⟨tE, hYX⟩ | ⟨tE, hp, hYX⟩ | ⟨tE, hp, hYX⟩
    · go_wp2_with fail
      obtain ⟨w4, hw4⟩ : ∃ w4, w4 = w3 := ⟨_, rfl⟩
      obtain ⟨v4, hv4⟩ : ∃ v4, v4 = v3 := ⟨_, rfl⟩
      have S4 : Hid (Stp w.heap.size r s (.slice none 0 0) W1 Y v4 w4) := Lib.hid (by rw [hYX, hw4, hv4]; exact S3.out)
      rw [← hw4]
      clear hw4 hv4 d1 d3 hYX tE
      have LA := Lib.hid (lay_r w.heap.size r s Y v4 ⟨4, 1, 0, e0⟩ w4 S4.out.ra (by have := YL.out; omega))
      refine LA.out.mono ?_
      rintro e w5 ⟨rfl, v5, s5⟩
      have S5 := Lib.hid (S4.out.trans s5)
      have LB := Lib.hid (lay_r w.heap.size r s _ v5 ⟨7, 0, 0, e0⟩ w5 S5.out.ra (by simp only [RS.lay, List.length_append, List.length_singleton]; have := YL.out; omega))
      clear s5
      go_wp2_with fail
      refine LB.out.mono ?_
      rintro e w6 ⟨rfl, v6, s6⟩
      have S6 := Lib.hid (S5.out.trans s6)
      clear s6
      obtain ⟨Z, hZ⟩ : ∃ Z, Z = (Y.lay ⟨4, 1, 0, e0⟩).lay ⟨7, 0, 0, e0⟩ := ⟨_, rfl⟩
      have hCZ : C = (if Z.err ≠ 0 then (0, [], Z.err) else if 1024 < Z.L.length then (0, [], 13) else (Z.grp, Z.L, 0)) := by rw [HCY.out, hZ]
      have S7 : Hid (Stp w.heap.size r s (.slice none 0 0) W1 Z v6 w6) := Lib.hid (by rw [hZ]; exact S6.out)
      have hZL : Z.L.length ≤ 40000 := by rw [hZ]; simp only [RS.lay, List.length_append, List.length_singleton]; have := YL.out; omega
      obtain ⟨a6, c6, hv6, _⟩ := own_shape S7.out.ra.own
      obtain ⟨nz, hnz⟩ : ∃ nz, nz = Z.L.length := ⟨_, rfl⟩
      rw [← hnz] at hv6 hZL
      subst hv6
      have q3 := S7.out.ra.c3
      have q4 := S7.out.ra.c4
      have q5 := S7.out.ra.c5
      have hne : w.heap.size ≠ r := by rw [HR.out]; omega
      have RB6 : w6.heap[w.heap.size]? = some (.cells #[.int .i64 0, .slice none 0 0] 33 (0, 0)) := (S7.out.fr.block w.heap.size (by omega) hne (by simp [Value.ownBlock])).trans RB.out
      have b0 := cell_blk RB6 0
      have b1 := cell_blk RB6 1
      have fb0 := froz_blk RB6 0
      have fb1 := froz_blk RB6 1
      simp at b0 b1
      have zw6 : w.heap.size < w6.heap.size := lt_blk RB6
      have G6 := Lib.hid (show Below w.heap.size w w6 from Below.trans G1.out (S7.out.fr.below (by rw [HR.out]; omega) (fun g hg => by simp [Value.ownBlock] at hg) (by omega)))
      have KEEP : Hid (∀ (u1 u2 : Value), ((w6.setCell ⟨w.heap.size, 0, none⟩ u1).setCell ⟨w.heap.size, 1, none⟩ u2).ownsRow w.heap.size 76 4 (.slice a6 nz c6) nz (cellsI Z.L)) := Lib.hid (fun u1 u2 => by
        have h1 := S7.out.ra.own
        rw [← hnz] at h1
        have hnb : (Value.slice a6 nz c6).ownBlock ≠ some w.heap.size := fun e => by
          rcases h1.2 with ⟨h2, _⟩ | ⟨g, cap, cur, h2, _, h3, _⟩
          · rw [h2] at e; cases e
          · rw [h2] at e
            have e' : g = w.heap.size := by simpa [Value.ownBlock] using e
            rw [e', RB6] at h3
            injection h3 with h3
            injection h3 with _ h3 _
            exact absurd h3 (by decide)
        have h2 : (w6.setCell ⟨w.heap.size, 0, none⟩ u1).ownsRow w.heap.size 76 4 (.slice a6 nz c6) nz (cellsI Z.L) := h1.kept (row := some w.heap.size) ⟨rfl, rfl, rfl, by simp, fun k hk hkr => heap_setCell_other _ _ _ _ (fun e => hkr (by rw [e]))⟩ (.inr hnb)
        exact h2.kept (row := some w.heap.size) ⟨rfl, rfl, rfl, by simp, fun k hk hkr => heap_setCell_other _ _ _ _ (fun e => hkr (by rw [e]))⟩ (.inr hnb))
      have FB : Hid (∀ (u1 u2 : Value), Grow w ((w6.setCell ⟨w.heap.size, 0, none⟩ u1).setCell ⟨w.heap.size, 1, none⟩ u2)) := Lib.hid (fun u1 u2 => (G6.out.setCell (Nat.le_refl _) _).setCell (Nat.le_refl _) _)
      obtain ⟨E2, hE2⟩ : ∃ E2, E2 = Z.err := ⟨_, rfl⟩
      obtain ⟨g2, hg2⟩ : ∃ g2, g2 = Z.grp := ⟨_, rfl⟩
      rw [← hE2] at q3
      rw [← hg2] at q4
      have HE2 := Lib.hid hE2
      have HG2 := Lib.hid hg2
      have HNZ := Lib.hid hnz
      have HCZ := Lib.hid hCZ
      have RBH := Lib.hid RB6
      clear hZ hCZ hE2 hg2 hnz RB6 G6
      cases tE2 : (E2 != 0) with
      | true =>
        have hC : C = (0, [], E2) := by
          rw [HCZ.out, if_pos (by rw [← HE2.out]; simpa using tE2), HE2.out]
        subst hC
        have KZ : Hid (∀ (u1 u2 : Value), ((w6.setCell ⟨w.heap.size, 0, none⟩ u1).setCell ⟨w.heap.size, 1, none⟩ u2).cell? ⟨r, 3, none⟩ = some (.int .i64 E2)) := Lib.hid (fun u1 u2 => by
          rw [World.cell?_setCell_other _ _ _ _ (by simp [Ne.symm hne]), World.cell?_setCell_other _ _ _ _ (by simp [Ne.symm hne])]; exact q3)
        go_wp2
        go_region_held3 (fun w' => w'.cell? ⟨r, 3, none⟩ = some (.int .i64 E2)) (first | go_keep | exact KZ.out _ _) (fail)
        all_goals
          go_wp2
          refine bodyPost_ret (v := .tuple #[.agg #[.int .i64 0, .slice none 0 0], .int .i64 E2]) (by simp [results, Try.results34, go_sem, b0, b1, zw6]) rfl ?_
          exact ⟨_, rfl, World.ownsRow_nil _ _ _ _, (FB.out _ _).drew⟩
      | false =>
        have hE0 : E2 = 0 := by simpa using tE2
        subst hE0
        by_cases hL : (1024 : Int) < (nz : Int)
        · have hC : C = (0, [], 13) := by
            rw [HCZ.out, if_neg (by rw [← HE2.out]; simp), if_pos (by rw [← HNZ.out]; omega)]
          subst hC
          go_wp2
          refine bodyPost_ret (v := .tuple #[.agg #[.int .i64 0, .slice none 0 0], .int .i64 13]) (by simp [results, Try.results34, go_sem, b0, b1, zw6]) rfl ?_
          exact ⟨_, rfl, World.ownsRow_nil _ _ _ _, FB.out _ _⟩
        · have hC : C = (g2, Z.L, 0) := by
            rw [HCZ.out, if_neg (by rw [← HE2.out]; simp), if_neg (by rw [← HNZ.out]; omega), HG2.out]
          subst hC
          go_wp2
          refine bodyPost_ret (v := .tuple #[.agg #[.int .i64 g2, .slice a6 nz c6], .int .i64 0]) (by simp [results, Try.results34, go_sem, b0, b1, zw6]) rfl ?_
          refine ⟨_, rfl, ?_, FB.out _ _⟩
          have := KEEP.out (.int .i64 g2) (.slice a6 nz c6)
          rw [HNZ.out] at this ⊢
          exact this
    · go_wp2_with fail
      obtain ⟨w4, hw4⟩ : ∃ w4, w4 = w3 := ⟨_, rfl⟩
      obtain ⟨v4, hv4⟩ : ∃ v4, v4 = v3 := ⟨_, rfl⟩
      have S4 : Hid (Stp w.heap.size r s (.slice none 0 0) W1 Y v4 w4) := Lib.hid (by rw [hYX, hw4, hv4]; exact S3.out)
      rw [← hw4]
      clear hw4 hv4 d1 d3 hYX tE
      have LA := Lib.hid (lay_r w.heap.size r s Y v4 ⟨4, 1, 0, e0⟩ w4 S4.out.ra (by have := YL.out; omega))
      refine LA.out.mono ?_
      rintro e w5 ⟨rfl, v5, s5⟩
      have S5 := Lib.hid (S4.out.trans s5)
      have LB := Lib.hid (lay_r w.heap.size r s _ v5 ⟨7, 0, 0, e0⟩ w5 S5.out.ra (by simp only [RS.lay, List.length_append, List.length_singleton]; have := YL.out; omega))
      clear s5
      go_wp2_with fail
      refine LB.out.mono ?_
      rintro e w6 ⟨rfl, v6, s6⟩
      have S6 := Lib.hid (S5.out.trans s6)
      clear s6
      obtain ⟨Z, hZ⟩ : ∃ Z, Z = (Y.lay ⟨4, 1, 0, e0⟩).lay ⟨7, 0, 0, e0⟩ := ⟨_, rfl⟩
      have hCZ : C = (if Z.err ≠ 0 then (0, [], Z.err) else if 1024 < Z.L.length then (0, [], 13) else (Z.grp, Z.L, 0)) := by rw [HCY.out, hZ]
      have S7 : Hid (Stp w.heap.size r s (.slice none 0 0) W1 Z v6 w6) := Lib.hid (by rw [hZ]; exact S6.out)
      have hZL : Z.L.length ≤ 40000 := by rw [hZ]; simp only [RS.lay, List.length_append, List.length_singleton]; have := YL.out; omega
      obtain ⟨a6, c6, hv6, _⟩ := own_shape S7.out.ra.own
      obtain ⟨nz, hnz⟩ : ∃ nz, nz = Z.L.length := ⟨_, rfl⟩
      rw [← hnz] at hv6 hZL
      subst hv6
      have q3 := S7.out.ra.c3
      have q4 := S7.out.ra.c4
      have q5 := S7.out.ra.c5
      have hne : w.heap.size ≠ r := by rw [HR.out]; omega
      have RB6 : w6.heap[w.heap.size]? = some (.cells #[.int .i64 0, .slice none 0 0] 33 (0, 0)) := (S7.out.fr.block w.heap.size (by omega) hne (by simp [Value.ownBlock])).trans RB.out
      have b0 := cell_blk RB6 0
      have b1 := cell_blk RB6 1
      have fb0 := froz_blk RB6 0
      have fb1 := froz_blk RB6 1
      simp at b0 b1
      have zw6 : w.heap.size < w6.heap.size := lt_blk RB6
      have G6 := Lib.hid (show Below w.heap.size w w6 from Below.trans G1.out (S7.out.fr.below (by rw [HR.out]; omega) (fun g hg => by simp [Value.ownBlock] at hg) (by omega)))
      have KEEP : Hid (∀ (u1 u2 : Value), ((w6.setCell ⟨w.heap.size, 0, none⟩ u1).setCell ⟨w.heap.size, 1, none⟩ u2).ownsRow w.heap.size 76 4 (.slice a6 nz c6) nz (cellsI Z.L)) := Lib.hid (fun u1 u2 => by
        have h1 := S7.out.ra.own
        rw [← hnz] at h1
        have hnb : (Value.slice a6 nz c6).ownBlock ≠ some w.heap.size := fun e => by
          rcases h1.2 with ⟨h2, _⟩ | ⟨g, cap, cur, h2, _, h3, _⟩
          · rw [h2] at e; cases e
          · rw [h2] at e
            have e' : g = w.heap.size := by simpa [Value.ownBlock] using e
            rw [e', RB6] at h3
            injection h3 with h3
            injection h3 with _ h3 _
            exact absurd h3 (by decide)
        have h2 : (w6.setCell ⟨w.heap.size, 0, none⟩ u1).ownsRow w.heap.size 76 4 (.slice a6 nz c6) nz (cellsI Z.L) := h1.kept (row := some w.heap.size) ⟨rfl, rfl, rfl, by simp, fun k hk hkr => heap_setCell_other _ _ _ _ (fun e => hkr (by rw [e]))⟩ (.inr hnb)
        exact h2.kept (row := some w.heap.size) ⟨rfl, rfl, rfl, by simp, fun k hk hkr => heap_setCell_other _ _ _ _ (fun e => hkr (by rw [e]))⟩ (.inr hnb))
      have FB : Hid (∀ (u1 u2 : Value), Grow w ((w6.setCell ⟨w.heap.size, 0, none⟩ u1).setCell ⟨w.heap.size, 1, none⟩ u2)) := Lib.hid (fun u1 u2 => (G6.out.setCell (Nat.le_refl _) _).setCell (Nat.le_refl _) _)
      obtain ⟨E2, hE2⟩ : ∃ E2, E2 = Z.err := ⟨_, rfl⟩
      obtain ⟨g2, hg2⟩ : ∃ g2, g2 = Z.grp := ⟨_, rfl⟩
      rw [← hE2] at q3
      rw [← hg2] at q4
      have HE2 := Lib.hid hE2
      have HG2 := Lib.hid hg2
      have HNZ := Lib.hid hnz
      have HCZ := Lib.hid hCZ
      have RBH := Lib.hid RB6
      clear hZ hCZ hE2 hg2 hnz RB6 G6
      cases tE2 : (E2 != 0) with
      | true =>
        have hC : C = (0, [], E2) := by
          rw [HCZ.out, if_pos (by rw [← HE2.out]; simpa using tE2), HE2.out]
        subst hC
        have KZ : Hid (∀ (u1 u2 : Value), ((w6.setCell ⟨w.heap.size, 0, none⟩ u1).setCell ⟨w.heap.size, 1, none⟩ u2).cell? ⟨r, 3, none⟩ = some (.int .i64 E2)) := Lib.hid (fun u1 u2 => by
          rw [World.cell?_setCell_other _ _ _ _ (by simp [Ne.symm hne]), World.cell?_setCell_other _ _ _ _ (by simp [Ne.symm hne])]; exact q3)
        go_wp2
        go_region_held3 (fun w' => w'.cell? ⟨r, 3, none⟩ = some (.int .i64 E2)) (first | go_keep | exact KZ.out _ _) (fail)
        all_goals
          go_wp2
          refine bodyPost_ret (v := .tuple #[.agg #[.int .i64 0, .slice none 0 0], .int .i64 E2]) (by simp [results, Try.results34, go_sem, b0, b1, zw6]) rfl ?_
          exact ⟨_, rfl, World.ownsRow_nil _ _ _ _, (FB.out _ _).drew⟩
      | false =>
        have hE0 : E2 = 0 := by simpa using tE2
        subst hE0
        by_cases hL : (1024 : Int) < (nz : Int)
        · have hC : C = (0, [], 13) := by
            rw [HCZ.out, if_neg (by rw [← HE2.out]; simp), if_pos (by rw [← HNZ.out]; omega)]
          subst hC
          go_wp2
          refine bodyPost_ret (v := .tuple #[.agg #[.int .i64 0, .slice none 0 0], .int .i64 13]) (by simp [results, Try.results34, go_sem, b0, b1, zw6]) rfl ?_
          exact ⟨_, rfl, World.ownsRow_nil _ _ _ _, FB.out _ _⟩
        · have hC : C = (g2, Z.L, 0) := by
            rw [HCZ.out, if_neg (by rw [← HE2.out]; simp), if_neg (by rw [← HNZ.out]; omega), HG2.out]
          subst hC
          go_wp2
          refine bodyPost_ret (v := .tuple #[.agg #[.int .i64 g2, .slice a6 nz c6], .int .i64 0]) (by simp [results, Try.results34, go_sem, b0, b1, zw6]) rfl ?_
          refine ⟨_, rfl, ?_, FB.out _ _⟩
          have := KEEP.out (.int .i64 g2) (.slice a6 nz c6)
          rw [HNZ.out] at this ⊢
          exact this
    · have BB := Lib.hid (bad_any w.heap.size r s X v3 8 w3 S3.out.ra)
      go_wp2_with fail
      refine BB.out.mono ?_
      rintro e w4 ⟨rfl, v4, s4⟩
      have S4 : Hid (Stp w.heap.size r s (.slice none 0 0) W1 Y v4 w4) := Lib.hid (by rw [hYX]; exact S3.out.trans s4)
      clear s4 d1 d3 hYX tE hp BB
      go_wp2_with fail
      have LA := Lib.hid (lay_r w.heap.size r s Y v4 ⟨4, 1, 0, e0⟩ w4 S4.out.ra (by have := YL.out; omega))
      refine LA.out.mono ?_
      rintro e w5 ⟨rfl, v5, s5⟩
      have S5 := Lib.hid (S4.out.trans s5)
      have LB := Lib.hid (lay_r w.heap.size r s _ v5 ⟨7, 0, 0, e0⟩ w5 S5.out.ra (by simp only [RS.lay, List.length_append, List.length_singleton]; have := YL.out; omega))
      clear s5
      go_wp2_with fail
      refine LB.out.mono ?_
      rintro e w6 ⟨rfl, v6, s6⟩
      have S6 := Lib.hid (S5.out.trans s6)
      clear s6
      obtain ⟨Z, hZ⟩ : ∃ Z, Z = (Y.lay ⟨4, 1, 0, e0⟩).lay ⟨7, 0, 0, e0⟩ := ⟨_, rfl⟩
      have hCZ : C = (if Z.err ≠ 0 then (0, [], Z.err) else if 1024 < Z.L.length then (0, [], 13) else (Z.grp, Z.L, 0)) := by rw [HCY.out, hZ]
      have S7 : Hid (Stp w.heap.size r s (.slice none 0 0) W1 Z v6 w6) := Lib.hid (by rw [hZ]; exact S6.out)
      have hZL : Z.L.length ≤ 40000 := by rw [hZ]; simp only [RS.lay, List.length_append, List.length_singleton]; have := YL.out; omega
      obtain ⟨a6, c6, hv6, _⟩ := own_shape S7.out.ra.own
      obtain ⟨nz, hnz⟩ : ∃ nz, nz = Z.L.length := ⟨_, rfl⟩
      rw [← hnz] at hv6 hZL
      subst hv6
      have q3 := S7.out.ra.c3
      have q4 := S7.out.ra.c4
      have q5 := S7.out.ra.c5
      have hne : w.heap.size ≠ r := by rw [HR.out]; omega
      have RB6 : w6.heap[w.heap.size]? = some (.cells #[.int .i64 0, .slice none 0 0] 33 (0, 0)) := (S7.out.fr.block w.heap.size (by omega) hne (by simp [Value.ownBlock])).trans RB.out
      have b0 := cell_blk RB6 0
      have b1 := cell_blk RB6 1
      have fb0 := froz_blk RB6 0
      have fb1 := froz_blk RB6 1
      simp at b0 b1
      have zw6 : w.heap.size < w6.heap.size := lt_blk RB6
      have G6 := Lib.hid (show Below w.heap.size w w6 from Below.trans G1.out (S7.out.fr.below (by rw [HR.out]; omega) (fun g hg => by simp [Value.ownBlock] at hg) (by omega)))
      have KEEP : Hid (∀ (u1 u2 : Value), ((w6.setCell ⟨w.heap.size, 0, none⟩ u1).setCell ⟨w.heap.size, 1, none⟩ u2).ownsRow w.heap.size 76 4 (.slice a6 nz c6) nz (cellsI Z.L)) := Lib.hid (fun u1 u2 => by
        have h1 := S7.out.ra.own
        rw [← hnz] at h1
        have hnb : (Value.slice a6 nz c6).ownBlock ≠ some w.heap.size := fun e => by
          rcases h1.2 with ⟨h2, _⟩ | ⟨g, cap, cur, h2, _, h3, _⟩
          · rw [h2] at e; cases e
          · rw [h2] at e
            have e' : g = w.heap.size := by simpa [Value.ownBlock] using e
            rw [e', RB6] at h3
            injection h3 with h3
            injection h3 with _ h3 _
            exact absurd h3 (by decide)
        have h2 : (w6.setCell ⟨w.heap.size, 0, none⟩ u1).ownsRow w.heap.size 76 4 (.slice a6 nz c6) nz (cellsI Z.L) := h1.kept (row := some w.heap.size) ⟨rfl, rfl, rfl, by simp, fun k hk hkr => heap_setCell_other _ _ _ _ (fun e => hkr (by rw [e]))⟩ (.inr hnb)
        exact h2.kept (row := some w.heap.size) ⟨rfl, rfl, rfl, by simp, fun k hk hkr => heap_setCell_other _ _ _ _ (fun e => hkr (by rw [e]))⟩ (.inr hnb))
      have FB : Hid (∀ (u1 u2 : Value), Grow w ((w6.setCell ⟨w.heap.size, 0, none⟩ u1).setCell ⟨w.heap.size, 1, none⟩ u2)) := Lib.hid (fun u1 u2 => (G6.out.setCell (Nat.le_refl _) _).setCell (Nat.le_refl _) _)
      obtain ⟨E2, hE2⟩ : ∃ E2, E2 = Z.err := ⟨_, rfl⟩
      obtain ⟨g2, hg2⟩ : ∃ g2, g2 = Z.grp := ⟨_, rfl⟩
      rw [← hE2] at q3
      rw [← hg2] at q4
      have HE2 := Lib.hid hE2
      have HG2 := Lib.hid hg2
      have HNZ := Lib.hid hnz
      have HCZ := Lib.hid hCZ
      have RBH := Lib.hid RB6
      clear hZ hCZ hE2 hg2 hnz RB6 G6
      cases tE2 : (E2 != 0) with
      | true =>
        have hC : C = (0, [], E2) := by
          rw [HCZ.out, if_pos (by rw [← HE2.out]; simpa using tE2), HE2.out]
        subst hC
        have KZ : Hid (∀ (u1 u2 : Value), ((w6.setCell ⟨w.heap.size, 0, none⟩ u1).setCell ⟨w.heap.size, 1, none⟩ u2).cell? ⟨r, 3, none⟩ = some (.int .i64 E2)) := Lib.hid (fun u1 u2 => by
          rw [World.cell?_setCell_other _ _ _ _ (by simp [Ne.symm hne]), World.cell?_setCell_other _ _ _ _ (by simp [Ne.symm hne])]; exact q3)
        go_wp2
        go_region_held3 (fun w' => w'.cell? ⟨r, 3, none⟩ = some (.int .i64 E2)) (first | go_keep | exact KZ.out _ _) (fail)
        all_goals
          go_wp2
          refine bodyPost_ret (v := .tuple #[.agg #[.int .i64 0, .slice none 0 0], .int .i64 E2]) (by simp [results, Try.results34, go_sem, b0, b1, zw6]) rfl ?_
          exact ⟨_, rfl, World.ownsRow_nil _ _ _ _, (FB.out _ _).drew⟩
      | false =>
        have hE0 : E2 = 0 := by simpa using tE2
        subst hE0
        by_cases hL : (1024 : Int) < (nz : Int)
        · have hC : C = (0, [], 13) := by
            rw [HCZ.out, if_neg (by rw [← HE2.out]; simp), if_pos (by rw [← HNZ.out]; omega)]
          subst hC
          go_wp2
          refine bodyPost_ret (v := .tuple #[.agg #[.int .i64 0, .slice none 0 0], .int .i64 13]) (by simp [results, Try.results34, go_sem, b0, b1, zw6]) rfl ?_
          exact ⟨_, rfl, World.ownsRow_nil _ _ _ _, FB.out _ _⟩
        · have hC : C = (g2, Z.L, 0) := by
            rw [HCZ.out, if_neg (by rw [← HE2.out]; simp), if_neg (by rw [← HNZ.out]; omega), HG2.out]
          subst hC
          go_wp2
          refine bodyPost_ret (v := .tuple #[.agg #[.int .i64 g2, .slice a6 nz c6], .int .i64 0]) (by simp [results, Try.results34, go_sem, b0, b1, zw6]) rfl ?_
          refine ⟨_, rfl, ?_, FB.out _ _⟩
          have := KEEP.out (.int .i64 g2) (.slice a6 nz c6)
          rw [HNZ.out] at this ⊢
          exact this
end Go.Proofs.Ytldcbkememonaaa
