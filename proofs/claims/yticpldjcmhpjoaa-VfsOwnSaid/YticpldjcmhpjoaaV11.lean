/-
  The walk of applies: removes, writes.
-/
import Derived.Test.YticpldjcmhpjoaaV10
namespace Go.Proofs.Yticpldjcmhpjoaa
open Go.RowKit
set_option linter.unusedVariables false
set_option linter.unusedSimpArgs false

theorem Grow.trans2 {a b c : World} (h : Grow a b) (k : Grow b c) : Grow a c := Below.trans h (Below.mono k h.size)
theorem mapV_look1 {w : World} {mb n : Nat} {f : ByteArray → Option Value} (h : MapV w mb n f) (s : ByteArray) (hs : s.size ≤ maxLen) :
    (Instr.lookup 56 (.map (some mb)) (.string s) false).run Try.prog w = .ok ((f s).getD (.slice none 0 0)) w := by
  obtain ⟨D, h1, h2, h3⟩ := h
  obtain ⟨v, ps, hrun, hv⟩ := h1.lookup keyed9 Try.underlying56 (Try.zeroValue22 w) (show rawE (.slice none 0 0) = some (.held (.slice none 0 0), []) from rfl) (WideMaps.keyOf_string_mk Try.underlying9 hs)
  obtain ⟨e1, e2⟩ := h3 s
  unfold keyL at e1 e2
  rw [e1] at hv
  rw [rawE_inv hv] at hrun
  exact hrun
theorem FilesV.look {P : Nat → Prop} {w : World} {mb n : Nat} {g : ByteArray → Option (List UInt8)} (h : FilesV P w mb n g) (s : ByteArray) (hs : s.size ≤ maxLen) (b : List UInt8) (hb : g s = some b) :
    ∃ v, (Instr.lookup 56 (.map (some mb)) (.string s) false).run Try.prog w = .ok v w ∧ BytesIn P w v b := by
  obtain ⟨f, h1, h2⟩ := h
  obtain ⟨v, h3, h4⟩ := (h2 s).2 b hb
  refine ⟨v, ?_, h4⟩
  have := mapV_look1 h1 s hs
  rw [h3] at this
  exact this
set_option maxRecDepth 20000 in
set_option maxHeartbeats 1000000 in
theorem applies2 {P : Nat → Prop} (fb mb n : Nat) (g : ByteArray → Option (List UInt8)) (c : Chg) (dv : Value) (w : World) (hk : c.kind = 2) (h2 : w.cell? ⟨fb, 2, none⟩ = some (.map (some mb)))
    (hF : FilesV P w mb n g) (hs : c.name.size ≤ maxLen) :
    Calls Try.prog 45 #[.pointer (some ⟨fb, 0, none⟩), c.val dv] w (AppP P mb n (doesG g c) w) := by
  obtain ⟨kind, name, at_, data⟩ := c
  obtain rfl : kind = 2 := hk
  unfold Chg.val
  rw [doesG2]
  simp only at hs ⊢
  obtain ⟨W1, hW1⟩ : ∃ W1, W1 = w.alloc (.cells #[.int .i64 2, .string name, .int .i64 (at_ : Int), dv] 68) := ⟨_, rfl⟩
  have hg1 : Grow w W1 := by rw [hW1]; exact (Grow.refl w).alloc _
  have hb1 := heap_alloc_new w (.cells #[.int .i64 2, .string name, .int .i64 (at_ : Int), dv] 68)
  rw [← hW1] at hb1
  have d1 : W1.cell? ⟨w.heap.size, 1, none⟩ = some (.string name) := by simp [World.cell?, hb1]
  have d3 : W1.cell? ⟨w.heap.size, 3, none⟩ = some dv := by simp [World.cell?, hb1]
  have f2 : W1.cell? ⟨fb, 2, none⟩ = some (.map (some mb)) := (Below.cell hg1 (p := ⟨fb, 2, none⟩) (lt_of_cell h2)).trans h2
  have hmf : mb ≠ fb := by
    rintro rfl
    obtain ⟨es, cl, hb⟩ := hF.choose_spec.1.blk
    simp [World.cell?, hb] at h2
  have hmw := hF.lt
  have KA := Lib.hid (show ∀ W, Grow W1 W → W.cell? ⟨w.heap.size, 1, none⟩ = some (.string name) ∧ W.cell? ⟨w.heap.size, 3, none⟩ = some dv ∧ W.cell? ⟨fb, 2, none⟩ = some (.map (some mb)) from fun W hW =>
    ⟨(Below.cell hW (p := ⟨w.heap.size, 1, none⟩) (lt_of_cell d1)).trans d1, (Below.cell hW (p := ⟨w.heap.size, 3, none⟩) (lt_of_cell d3)).trans d3, (Below.cell hW (p := ⟨fb, 2, none⟩) (lt_of_cell f2)).trans f2⟩)
  have KB := Lib.hid (show ∀ W W', Grow W1 W → Turn (fun k => k = mb) W W' → W'.cell? ⟨w.heap.size, 1, none⟩ = some (.string name) ∧ W'.cell? ⟨w.heap.size, 3, none⟩ = some dv ∧ W'.cell? ⟨fb, 2, none⟩ = some (.map (some mb)) from fun W W' hW hT =>
    ⟨hT.cell (KA.out W hW).1 (by simp; omega), hT.cell (KA.out W hW).2.1 (by simp; omega), hT.cell (KA.out W hW).2.2 (by simp; omega)⟩)
  have FV := Lib.hid (show ∀ W, Grow W1 W → FilesV (fun k => P k ∨ w.heap.size ≤ k) W mb n g from fun W hW =>
    ((hF.turn (Turn.of_grow (P := fun _ => False) (hg1.trans hW)) (fun h => h)).mono (fun k _ hk => .inl hk)))
  have HG := Lib.hid hg1
  have HS := Lib.hid hs
  clear hF hg1 hb1 hmw hmf hs h2
  have HW := Lib.hid hW1
  clear hW1
  go_enter Try.func45, Try.ntmps45
  go_wp2
  rw [← HW.out]
  go_region_held3 (fun W => W.cell? ⟨w.heap.size, 1, none⟩ = some (.string name) ∧ W.cell? ⟨w.heap.size, 3, none⟩ = some dv ∧ W.cell? ⟨fb, 2, none⟩ = some (.map (some mb)))
    (first
      | exact KA.out _ (Grow.refl _).drew
      | exact KB.out _ _ (Grow.refl _).drew t4)
    ((refine step_drop (by rfl) _ _ (by rfl) (FV.out _ (Grow.refl _).drew) name (by rfl) (by rfl) HS.out ?_; intro w4 hF4 t4))
  all_goals
    go_wp2
    go_end0
    refine ⟨rfl, (Turn.of_grow (HG.out.trans (Grow.refl _).drew)).trans t4 (fun _ _ h => h), ?_⟩
    exact hF4.out
set_option maxRecDepth 20000 in
set_option maxHeartbeats 1000000 in
theorem applies1 {P : Nat → Prop} (fb mb n : Nat) (g : ByteArray → Option (List UInt8)) (c : Chg) (dv : Value) (w : World) (hk : c.kind = 1) (b : List UInt8) (hb : g c.name = some b) (hi : c.at_ + c.data.length ≤ b.length) (h2 : w.cell? ⟨fb, 2, none⟩ = some (.map (some mb)))
    (hF : FilesV P w mb n g) (hn : n < maxLen) (hs : c.name.size ≤ maxLen) (hd : BytesIn P w dv c.data) (hl : b.length ≤ 140737488355328) :
    Calls Try.prog 45 #[.pointer (some ⟨fb, 0, none⟩), c.val dv] w (AppP P mb (n + 1) (doesG g c) w) := by
  obtain ⟨kind, name, at_, data⟩ := c
  obtain rfl : kind = 1 := hk
  unfold Chg.val
  simp only at hs hd hl hb hi ⊢
  rw [doesG1 g name at_ data b hb]
  obtain ⟨W1, hW1⟩ : ∃ W1, W1 = w.alloc (.cells #[.int .i64 1, .string name, .int .i64 (at_ : Int), dv] 68) := ⟨_, rfl⟩
  have hg1 : Grow w W1 := by rw [hW1]; exact (Grow.refl w).alloc _
  have hb1 := heap_alloc_new w (.cells #[.int .i64 1, .string name, .int .i64 (at_ : Int), dv] 68)
  rw [← hW1] at hb1
  have d1 : W1.cell? ⟨w.heap.size, 1, none⟩ = some (.string name) := by simp [World.cell?, hb1]
  have d2 : W1.cell? ⟨w.heap.size, 2, none⟩ = some (.int .i64 (at_ : Int)) := by simp [World.cell?, hb1]
  have d3 : W1.cell? ⟨w.heap.size, 3, none⟩ = some dv := by simp [World.cell?, hb1]
  have f2 : W1.cell? ⟨fb, 2, none⟩ = some (.map (some mb)) := (Below.cell hg1 (p := ⟨fb, 2, none⟩) (lt_of_cell h2)).trans h2
  have hmf : mb ≠ fb := by
    rintro rfl
    obtain ⟨es, cl, hb⟩ := hF.choose_spec.1.blk
    simp [World.cell?, hb] at h2
  have hmw := hF.lt
  have KA := Lib.hid (show ∀ W, Grow W1 W → W.cell? ⟨w.heap.size, 1, none⟩ = some (.string name) ∧ W.cell? ⟨w.heap.size, 2, none⟩ = some (.int .i64 (at_ : Int)) ∧ W.cell? ⟨w.heap.size, 3, none⟩ = some dv ∧ W.cell? ⟨fb, 2, none⟩ = some (.map (some mb)) from fun W hW =>
    ⟨(Below.cell hW (p := ⟨w.heap.size, 1, none⟩) (lt_of_cell d1)).trans d1, (Below.cell hW (p := ⟨w.heap.size, 2, none⟩) (lt_of_cell d2)).trans d2, (Below.cell hW (p := ⟨w.heap.size, 3, none⟩) (lt_of_cell d3)).trans d3, (Below.cell hW (p := ⟨fb, 2, none⟩) (lt_of_cell f2)).trans f2⟩)
  have KB := Lib.hid (show ∀ W W', Grow W1 W → Turn (fun k => k = mb) W W' → W'.cell? ⟨w.heap.size, 1, none⟩ = some (.string name) ∧ W'.cell? ⟨w.heap.size, 2, none⟩ = some (.int .i64 (at_ : Int)) ∧ W'.cell? ⟨w.heap.size, 3, none⟩ = some dv ∧ W'.cell? ⟨fb, 2, none⟩ = some (.map (some mb)) from fun W W' hW hT =>
    ⟨hT.cell (KA.out W hW).1 (by simp; omega), hT.cell (KA.out W hW).2.1 (by simp; omega), hT.cell (KA.out W hW).2.2.1 (by simp; omega), hT.cell (KA.out W hW).2.2.2 (by simp; omega)⟩)
  have FV := Lib.hid (show ∀ W, Grow W1 W → FilesV (fun k => P k ∨ w.heap.size ≤ k) W mb n g from fun W hW =>
    ((hF.turn (Turn.of_grow (P := fun _ => False) (hg1.trans hW)) (fun h => h)).mono (fun k _ hk => .inl hk)))
  have HB := Lib.hid hb
  have HI := Lib.hid hi
  obtain ⟨bv, LK, hbv⟩ := (FV.out W1.drew (Grow.refl _).drew).look name hs b hb
  have HBV := Lib.hid hbv
  have CL := Lib.hid (show Calls Try.prog 34 #[bv] W1.drew fun e w' => ∃ v', e = .returned v' ∧ Hid (OwnL W1.heap.size w' v' b) ∧ Below W1.heap.size W1.drew w' from by
    refine (clone_any bv b W1.drew hbv hl).mono ?_
    rintro e w' ⟨v', rfl, h3, h4⟩
    exact ⟨v', rfl, Lib.hid h3, h4⟩)
  have HD := Lib.hid (hd.turn (Turn.of_grow (P := P) hg1))
  have HG := Lib.hid hg1
  have HN := Lib.hid hn
  have HS := Lib.hid hs
  clear hbv hb hi hd hF hg1 hb1 hmw hmf hs hn hl h2
  have HW := Lib.hid hW1
  clear hW1
  go_enter Try.func45, Try.ntmps45
  go_wp2
  rw [← HW.out]
  go_region_held3 (fun W => W.cell? ⟨w.heap.size, 1, none⟩ = some (.string name) ∧ W.cell? ⟨w.heap.size, 2, none⟩ = some (.int .i64 (at_ : Int)) ∧ W.cell? ⟨w.heap.size, 3, none⟩ = some dv ∧ W.cell? ⟨fb, 2, none⟩ = some (.map (some mb)))
    (first
      | exact KA.out _ (Grow.refl _).drew
      | exact KA.out _ ((Grow.refl _).drew.trans b3))
    ((go_at_call 34; refine CL.out.mono ?_; rintro e w3 ⟨v3, rfl, hv3, b3⟩))
  all_goals
    have B4 := Lib.hid ((Grow.refl W1).drew.trans b3)
    have HBYL := hv3.out.bytes
    have hi9 := HI.out
    have hsh : (v3 = .slice none 0 0 ∧ b = []) ∨ ∃ g c, v3 = .slice (some ⟨g, 0, none⟩) b.length c ∧ b.length ≤ c := by
      have h9 := hv3.out
      rcases h9.2 with ⟨hv, h0⟩ | ⟨g', cap, cur, hv, _, _, hnc, _⟩
      · exact .inl ⟨hv, List.eq_nil_of_length_eq_zero h0⟩
      · exact .inr ⟨g', cap, hv, hnc⟩
    clear HBYL
    obtain ⟨e1, e2, e3, ef⟩ := KA.out _ B4.out
    rcases hsh with ⟨rfl, rfl⟩ | ⟨g3, c3, rfl, hc3⟩
    · have e0 : at_ = 0 ∧ data = [] := by
        simp at hi9
        exact ⟨hi9.1, List.eq_nil_of_length_eq_zero (by simp [hi9.2])⟩
      obtain ⟨rfl, rfl⟩ := e0
      obtain ⟨ad, cd, hdv⟩ := HD.out.shape
      subst hdv
      have HCP := Lib.hid (fun ty => run_copy_zero (P := Try.prog) w3.drew 22 22 ty 5 Try.underlying22 (by kernel_rfl) none ad 0 0 0 cd rfl)
      have H3 := Lib.hid hv3.out
      have Z0 := Lib.hid (own_grow hv3.out (Grow.refl w3).drew)
      clear hi9 hv3
      go_wp2
      go_region_held3 (fun W => W.cell? ⟨w.heap.size, 1, none⟩ = some (.string name) ∧ W.cell? ⟨w.heap.size, 2, none⟩ = some (.int .i64 ((0 : Nat) : Int)) ∧ W.cell? ⟨w.heap.size, 3, none⟩ = some (.slice ad 0 cd) ∧ W.cell? ⟨fb, 2, none⟩ = some (.map (some mb)))
        (exact KA.out _ B4.out.drew)
        ((refine step_copy_run (by rfl) _ _ _ _ (by rfl) _ _ _ w3.drew (by rfl) (by rfl) HCP.out ?_))
      have B5 := Lib.hid (B4.out.drew)
      all_goals
        obtain ⟨w6, r6, hF6, t6⟩ := (FV.out w3.drew.drew B5.out.drew).store name HS.out (.slice none 0 0) (over [] 0 []) (.inl ⟨rfl, rfl⟩) HN.out
        have HF6 := Lib.hid hF6
        obtain ⟨m1, m2, m3, mf⟩ := KA.out _ B5.out
        clear hF6
        go_wp2
        go_region_held3 (fun W => W.cell? ⟨w.heap.size, 1, none⟩ = some (.string name) ∧ W.cell? ⟨fb, 2, none⟩ = some (.map (some mb)))
          (first
            | exact ⟨(KA.out _ B5.out.drew).1, (KA.out _ B5.out.drew).2.2.2⟩
            | exact ⟨(KB.out _ _ B5.out.drew t6).1, (KB.out _ _ B5.out.drew t6).2.2.2⟩)
          (fail)
        all_goals
          go_wp2
          go_end0
          refine ⟨rfl, (Turn.of_grow (HG.out.trans B5.out.drew)).trans t6 (fun _ _ h => h), ?_⟩
          exact HF6.out
    · obtain ⟨w5, hcp, hv5, b5⟩ := run_copyL (P := P) (own_grow hv3.out (Grow.refl w3).drew) ((HD.out.turn (Turn.of_grow (P := P) B4.out)).turn (Turn.of_grow (P := P) (Grow.refl w3).drew)) at_ HI.out (c3 - at_)
      have HCP := Lib.hid hcp
      have B5 := Lib.hid (show Grow W1 w5 from Below.trans B4.out.drew b5)
      have HV5' := hv5.bytes.mono (Q := fun k => P k ∨ w.heap.size ≤ k) (fun k _ hk => .inr (by have := Grow.size HG.out; omega))
      clear hcp hv5 b5
      obtain ⟨bl, hbl⟩ : ∃ bl, bl = b.length := ⟨_, rfl⟩
      have HBL := Lib.hid hbl
      rw [← hbl] at hc3 hi9 HV5' ⊢
      have HV5 := Lib.hid HV5'
      have HCP' := HCP.out
      rw [← hbl] at HCP'
      have HCP := Lib.hid HCP'
      clear hbl HCP' hv3 HV5'
      have a1 : at_ ≤ bl := by omega
      have a2 : (at_ : Int) ≤ (bl : Int) := by omega
      go_wp2
      go_region_held3 (fun W => W.cell? ⟨w.heap.size, 1, none⟩ = some (.string name) ∧ W.cell? ⟨w.heap.size, 2, none⟩ = some (.int .i64 (at_ : Int)) ∧ W.cell? ⟨w.heap.size, 3, none⟩ = some dv ∧ W.cell? ⟨fb, 2, none⟩ = some (.map (some mb)))
        (first
          | exact KA.out _ B4.out.drew
          | exact KA.out _ B5.out)
        ((refine step_copy_run (by rfl) _ _ _ _ (by rfl) _ _ _ w5 (by rfl) (by rfl) HCP.out ?_))
      all_goals
        obtain ⟨w6, r6, hF6, t6⟩ := (FV.out w5.drew B5.out.drew).store name HS.out (.slice (some ⟨g3, 0, none⟩) bl c3) (over b at_ data) (HV5.out.turn (Turn.of_grow (P := P) (Grow.refl w5).drew)) HN.out
        have HF6 := Lib.hid hF6
        obtain ⟨m1, m2, m3, mf⟩ := KA.out _ B5.out
        clear hF6
        go_wp2
        all_goals
          try (have e9 : c3 = at_ := by assumption
               subst e9)
          go_region_held3 (fun W => W.cell? ⟨w.heap.size, 1, none⟩ = some (.string name) ∧ W.cell? ⟨fb, 2, none⟩ = some (.map (some mb)))
            (first
              | exact ⟨(KA.out _ B5.out.drew).1, (KA.out _ B5.out.drew).2.2.2⟩
              | exact ⟨(KB.out _ _ B5.out.drew t6).1, (KB.out _ _ B5.out.drew t6).2.2.2⟩)
            (fail)
          all_goals
            go_wp2
            go_end0
            refine ⟨rfl, (Turn.of_grow (HG.out.trans B5.out.drew)).trans t6 (fun _ _ h => h), ?_⟩
            exact HF6.out
end Go.Proofs.Yticpldjcmhpjoaa
