/-
  The walk of graticuleref17.Check.
-/
import Derived.Test.YtfldpaceebemhaaO2
import Derived.Test.YtfldpaceebemhaaK2
namespace Go.Proofs.Ytfldpaceebemhaa
open Go.RowKit

set_option maxHeartbeats 4000000 in
theorem check12_walk (kd : Int) (tx : ByteArray) (n : Int) (a : Option Addr) (l c : Nat) (K : Nat → KidD) (E : Nat → Int) (w : World) (htx : tx.size ≤ maxLen) (hk : KidRow w a l K)
    (IH : ∀ i, i < l → (K i).kd = 1 → ∀ w', Grow w w' → Calls Try.prog 12 #[(K i).val] w' fun e w'' => e = .returned (.int .i64 (E i)) ∧ Grow w' w'') :
    Calls Try.prog 12 #[.agg #[.int .i64 kd, .string tx, .int .i64 n, .slice a l c]] w fun e w' => e = .returned (.int .i64 (chk1 kd tx l K E)) ∧ Grow w w' := by
  obtain ⟨hl, hk⟩ := hk
  unfold maxLen at hl
  cases t2 : (kd == 2) with
  | true =>
    have hs : chk1 kd tx l K E = 0 := by unfold chk1; rw [t2]; rfl
    rw [hs]
    clear hk IH hs
    go_enter Try.func12, Try.ntmps12
    go_wp2
    go_ret
    exact ⟨rfl, (Grow.refl _).alloc _⟩
  | false =>
    by_cases t1 : kd = 1
    · subst t1
      have HI := Lib.hid IH
      have HK := Lib.hid hk
      have OF := Lib.hid (fun W => of14_any tx W)
      obtain ⟨S, hS⟩ : ∃ S, S = chk1 1 tx l K E := ⟨_, rfl⟩
      rw [← hS]
      have HS := Lib.hid hS
      clear hk IH hS
      go_enter Try.func12, Try.ntmps12
      go_wp2_with fail
      refine (OF.out _).mono ?_
      rintro e w1 ⟨d, ok, nv, mv, rfl, i1, i2, g1, hof⟩
      obtain ⟨s1, s2, s3⟩ := ofF_small tx
      rw [hof] at s1 s2
      clear s3
      simp only at s1 s2
      have hG : Grow w w1 := ((Grow.refl w).alloc _).trans g1
      have hb0 : w1.heap[w.heap.size]? = some (.cells #[.int .i64 1, .string tx, .int .i64 n, .slice a l c] 24 (0, 0)) :=
        (Below.block g1 _ (by simp)).trans (heap_alloc_new w (.cells #[.int .i64 1, .string tx, .int .i64 n, .slice a l c] 24))
      have hz : w.heap.size < w1.heap.size := by have := Grow.size g1; simp at this; omega
      have HG := Lib.hid hG
      clear g1 hG OF
      obtain ⟨-, a1, z1, rfl, -⟩ := i1.open'
      obtain ⟨-, a2, z2, rfl, -⟩ := i2.open'
      have I1 := Lib.hid i1
      have I2 := Lib.hid i2
      have HOF := Lib.hid hof
      clear i1 i2 hof
      obtain ⟨nm, need, may, rest⟩ := d
      simp only at s1 s2
      obtain ⟨N, hN⟩ : ∃ N, N = need.length := ⟨_, rfl⟩
      obtain ⟨M, hM⟩ : ∃ M, M = may.length := ⟨_, rfl⟩
      simp only [← hN, ← hM] at s1 s2 ⊢
      have HN := Lib.hid hN
      have HM := Lib.hid hM
      clear hN hM
      have b0 := cell_blk hb0 0
      have b1 := cell_blk hb0 1
      have b2 := cell_blk hb0 2
      have b3 := cell_blk hb0 3
      simp at b0 b1 b2 b3
      have HB0 := Lib.hid hb0
      clear hb0
      cases ok with
      | false =>
        have hs : S = 9 := by rw [HS.out]; unfold chk1; rw [HOF.out]; rfl
        subst hs
        go_wp2
        go_ret
        exact ⟨rfl, HG.out.alloc _⟩
      | true =>
        have u1 : IntKind.i64.wrap ((N : Int) + M) = (N : Int) + M := IntWalk.i64_in _ (by omega)
        rcases (show ((l : Int) < N) ∨ (¬ ((l : Int) < N) ∧ (rest == 0) = true ∧ (N : Int) + M < l) ∨ (¬ ((l : Int) < N) ∧ (rest == 0) = true ∧ ¬ (N : Int) + M < l) ∨ (¬ ((l : Int) < N) ∧ (rest == 0) = false) from by
          by_cases f1 : (l : Int) < N
          · exact .inl f1
          · cases f2 : (rest == 0)
            · exact .inr (.inr (.inr ⟨f1, rfl⟩))
            · by_cases f3 : (N : Int) + M < l
              · exact .inr (.inl ⟨f1, rfl, f3⟩)
              · exact .inr (.inr (.inl ⟨f1, rfl, f3⟩))) with f1 | ⟨f1, f2, f3⟩ | ⟨f1, f2, f3⟩ | ⟨f1, f2⟩
        · have hs : S = 10 := by
            have hf : fewB ⟨nm, need, may, rest⟩ l = true := by unfold fewB; simp only [← HN.out, ← HM.out]; simp; omega
            rw [HS.out]; unfold chk1; rw [HOF.out]; simp only [hf]; rfl
          subst hs
          go_wp2
          go_ret
          exact ⟨rfl, HG.out.alloc _⟩
        · have hs : S = 10 := by
            have hf : fewB ⟨nm, need, may, rest⟩ l = true := by unfold fewB; simp only [← HN.out, ← HM.out, f2]; simp; omega
            rw [HS.out]; unfold chk1; rw [HOF.out]; simp only [hf]; rfl
          subst hs
          go_wp2
          go_ret
          exact ⟨rfl, HG.out.alloc _⟩
        all_goals
          obtain ⟨F, hF⟩ : ∃ F, F = fewB ⟨nm, need, may, rest⟩ l := ⟨_, rfl⟩
          have HF := Lib.hid (show fewB ⟨nm, need, may, rest⟩ l = false from by unfold fewB; simp only [← HN.out, ← HM.out, f2]; simp; omega)
          clear hF F
          go_wp2
          obtain ⟨w2, hw2⟩ : ∃ w2, w2 = w1.alloc (.cells #[.string nm, .slice a1 N z1, .slice a2 M z2, .int .i64 rest] 37) := ⟨_, rfl⟩
          have hs2 := heap_alloc_new w1 (.cells #[.string nm, .slice a1 N z1, .slice a2 M z2, .int .i64 rest] 37)
          have g2 := (Grow.refl w1).alloc (.cells #[.string nm, .slice a1 N z1, .slice a2 M z2, .int .i64 rest] 37)
          have z2' : (w1.alloc (.cells #[.string nm, .slice a1 N z1, .slice a2 M z2, .int .i64 rest] 37)).heap.size = w1.heap.size + 1 := by simp
          rw [← hw2] at hs2 g2 z2' ⊢
          have hn0 : w2.heap[w.heap.size]? = some (.cells #[.int .i64 1, .string tx, .int .i64 n, .slice a l c] 24 (0, 0)) := (Below.block g2 _ hz).trans HB0.out
          have HN0 := Lib.hid hn0
          have HS2 := Lib.hid hs2
          have G2 := Lib.hid (HG.out.trans g2)
          have J1 := Lib.hid (I1.out.grow g2)
          have J2 := Lib.hid (I2.out.grow g2)
          clear b0 b1 b2 b3 hn0 hs2 g2 hw2 I1 I2 HB0 HG f1 f2
          go_loopw [5] (fun i wr => ∃ k : Nat, k ≤ l ∧ i = .int .i64 k ∧ Hid (∀ j, j < k → okKid ⟨nm, need, may, rest⟩ K j = true) ∧ Grow w2 wr) (fun i _ => l - (intOf i).toNat)
          case atStart => exact ⟨0, by omega, rfl, Lib.hid (fun j hj => absurd hj (by omega)), Grow.refl _⟩
          case round =>
            obtain ⟨k, hk, rfl, H, hb⟩ := hrel
            have k0 : (0 : Int) ≤ (k : Int) := by omega
            have hrs := hb.size
            have hn := (Below.block hb _ (show w.heap.size < w2.heap.size by omega)).trans HN0.out
            have hsg := (Below.block hb _ (show w1.heap.size < w2.heap.size by omega)).trans HS2.out
            have HB := Lib.hid hb
            have b3 := cell_blk hn 3
            simp at b3
            by_cases hlt : k < l
            · have k1 : (k : Int) < (l : Int) := by omega
              obtain ⟨g, o, rfl, hg, hki⟩ := HK.out (by omega)
              obtain ⟨q0, q1, q2, q3, q4⟩ := hki k hlt
              obtain ⟨D, hD⟩ : ∃ D, D = K k := ⟨_, rfl⟩
              have HD := Lib.hid hD
              rw [← hD] at q0 q1 q2 q3 q4
              clear hD hki
              obtain ⟨kd', tx', n', ao', l', c'⟩ := D
              simp only at q0 q1 q2 q3 q4
              have hgw : g < w2.heap.size := Nat.lt_of_lt_of_le hg (G2.out.size)
              have hgr : g < wr.heap.size := by omega
              have hw2r : Grow w wr := G2.out.trans hb
              replace q0 := (Below.cell hw2r (p := ⟨g, _, none⟩) hg).trans q0
              replace q1 := (Below.cell hw2r (p := ⟨g, _, none⟩) hg).trans q1
              replace q2 := (Below.cell hw2r (p := ⟨g, _, none⟩) hg).trans q2
              replace q3 := (Below.cell hw2r (p := ⟨g, _, none⟩) hg).trans q3
              clear hw2r
              have d0 := cell_blk hsg 0
              have d1 := cell_blk hsg 1
              have d2 := cell_blk hsg 2
              have d3 := cell_blk hsg 3
              simp at d0 d1 d2 d3
              clear hsg hn hb
              have hok : okKid ⟨nm, need, may, rest⟩ K k = sortB kd' tx' n' (sortAt ⟨nm, need, may, rest⟩ k) := by unfold okKid; rw [← HD.out]
              have HJ1 : Hid (IntsIn need (.slice a1 N z1) wr) := Lib.hid (by have := J1.out.grow HB.out; rw [← HN.out] at this; exact this)
              have HJ2 : Hid (IntsIn may (.slice a2 M z2) wr) := Lib.hid (by have := J2.out.grow HB.out; rw [← HM.out] at this; exact this)
              have F22 : Hid (∀ W, Grow wr W → Calls Try.prog 23 #[.agg #[.string nm, .slice a1 N z1, .slice a2 M z2, .int .i64 rest], .int .i64 k] W fun e w' => e = .returned (.int .i64 (sortAt ⟨nm, need, may, rest⟩ k)) ∧ Below W.heap.size W w') :=
                Lib.hid (fun W hW => sort23_any ⟨nm, need, may, rest⟩ k _ _ W (HJ1.out.grow hW) (HJ2.out.grow hW) (by rw [← HN.out]; omega) (by rw [← HM.out]; omega) (by unfold maxLen; omega))
              cases hsb : okKid ⟨nm, need, may, rest⟩ K k
              all_goals
                rw [hsb] at hok
                have F8 : Hid (∀ W, Calls Try.prog 9 #[.agg #[.int .i64 kd', .string tx', .int .i64 n', .slice ao' l' c'], .int .i64 (sortAt ⟨nm, need, may, rest⟩ k)] W fun e w' => e = .returned (.bool (okKid ⟨nm, need, may, rest⟩ K k)) ∧ Below W.heap.size W w') :=
                  Lib.hid (fun W => by rw [hsb, hok]; exact sort9_any kd' n' tx' ao' l' c' _ W q4)
                rw [hsb] at F8
                have HSB := Lib.hid hsb
                obtain ⟨SA, hSA⟩ : ∃ SA, SA = sortAt ⟨nm, need, may, rest⟩ k := ⟨_, rfl⟩
                rw [← hSA] at F8 F22
                clear hok hsb hSA
                go_wp2
                have hsr : w1.heap.size < wr.heap.size := by omega
                have hwr0 : w.heap.size < wr.heap.size := by omega
                refine wp_region_beyond wr.heap.size (by kernel_rfl) (by kernel_rfl) ?_
                have y0 : ∀ y : Beyond wr.heap.size wr, y.w.cell? ⟨g, o + k * 4, none⟩ = some (.int .i64 kd') := fun y => (y.h.cell (p := ⟨g, _, none⟩) hgr).trans q0
                have y1 : ∀ y : Beyond wr.heap.size wr, y.w.cell? ⟨g, o + k * 4 + 1, none⟩ = some (.string tx') := fun y => (y.h.cell (p := ⟨g, _, none⟩) hgr).trans q1
                have y2 : ∀ y : Beyond wr.heap.size wr, y.w.cell? ⟨g, o + k * 4 + 2, none⟩ = some (.int .i64 n') := fun y => (y.h.cell (p := ⟨g, _, none⟩) hgr).trans q2
                have y3 : ∀ y : Beyond wr.heap.size wr, y.w.cell? ⟨g, o + k * 4 + 3, none⟩ = some (.slice ao' l' c') := fun y => (y.h.cell (p := ⟨g, _, none⟩) hgr).trans q3
                have y4 : ∀ y : Beyond wr.heap.size wr, y.w.cell? ⟨w1.heap.size, 0, none⟩ = some (.string nm) := fun y => (y.h.cell (p := ⟨_, 0, none⟩) hsr).trans d0
                have y5 : ∀ y : Beyond wr.heap.size wr, y.w.cell? ⟨w1.heap.size, 1, none⟩ = some (.slice a1 N z1) := fun y => (y.h.cell (p := ⟨_, 1, none⟩) hsr).trans d1
                have y6 : ∀ y : Beyond wr.heap.size wr, y.w.cell? ⟨w1.heap.size, 2, none⟩ = some (.slice a2 M z2) := fun y => (y.h.cell (p := ⟨_, 2, none⟩) hsr).trans d2
                have y7 : ∀ y : Beyond wr.heap.size wr, y.w.cell? ⟨w1.heap.size, 3, none⟩ = some (.int .i64 rest) := fun y => (y.h.cell (p := ⟨_, 3, none⟩) hsr).trans d3
                have y8 : ∀ y : Beyond wr.heap.size wr, y.w.cell? ⟨w.heap.size, 3, none⟩ = some (.slice (some ⟨g, o, none⟩) l c) := fun y => (y.h.cell (p := ⟨_, 3, none⟩) hwr0).trans b3
                clear q0 q1 q2 q3 b3 d0 d1 d2 d3
                have F22' : Hid (∀ y : Beyond wr.heap.size wr, Calls Try.prog 23 #[.agg #[.string nm, .slice a1 N z1, .slice a2 M z2, .int .i64 rest], .int .i64 k] y.w fun e w' => e = .returned (.int .i64 SA) ∧ Below y.w.heap.size y.w w') :=
                  Lib.hid (fun y => F22.out _ y.h)
                repeat (go_big_quiet_step ((first
                  | (go_at_call 23; exact Calls.beyond (Nat.le_refl _) (F22'.out _))
                  | (go_at_call 9; exact Calls.beyond (Nat.le_refl _) (F8.out _)))))
                refine wpQuiet_nil ?_
                rintro w3 ⟨⟨_, hb3⟩, rfl⟩
                have HB3 := Lib.hid hb3
                clear y0 y1 y2 y3 y4 y5 y6 y7 y8 hb3
              · have hs : S = 11 := by
                  rw [HS.out]; unfold chk1; rw [HOF.out]
                  simp only [HF.out, range_all_false _ hlt HSB.out]
                  rfl
                subst hs
                go_wp2
                go_ret
                exact ⟨rfl, (G2.out.trans HB.out).trans HB3.out⟩
              · go_wp2
                go_roundw
                case rel => exact ⟨k + 1, by omega, by go_num, Lib.hid (fun j hj => by
                  rcases Nat.lt_or_ge j k with h | h
                  · exact H.out j h
                  · obtain rfl : j = k := by omega
                    exact HSB.out), HB.out.trans HB3.out⟩
                case measure => simp [intOf]; omega
            · have k1 : ¬ (k : Int) < (l : Int) := by omega
              obtain rfl : k = l := by omega
              have HA := Lib.hid (range_all_true _ H.out)
              clear hsg H hn hb b3
              have hn := (Below.block HB.out _ (show w.heap.size < w2.heap.size by omega)).trans HN0.out
              have b3 := cell_blk hn 3
              simp at b3
              clear hn
              obtain ⟨w4, hw4⟩ : ∃ w4, w4 = wr := ⟨_, rfl⟩
              rw [← hw4] at b3 ⊢
              have G4 := Lib.hid (show Grow w w4 from by rw [hw4]; exact G2.out.trans HB.out)
              have z4 : w2.heap.size ≤ w4.heap.size := by rw [hw4]; omega
              have HN4 := Lib.hid (show w4.heap[w.heap.size]? = some (.cells #[.int .i64 1, .string tx, .int .i64 n, .slice a k c] 24 (0, 0)) from by rw [hw4]; exact (Below.block HB.out _ (show w.heap.size < w2.heap.size by omega)).trans HN0.out)
              clear hw4 HB hrs HN0 HS2 hk J1 J2 G2
              go_wp2
              go_loopw [6] (fun i wr => ∃ j : Nat, j ≤ k ∧ i = .int .i64 j ∧ Hid (∀ i, i < j → badKid K E i = false) ∧ Grow w4 wr) (fun i _ => k - (intOf i).toNat)
              case atStart => exact ⟨0, by omega, rfl, Lib.hid (fun j hj => absurd hj (by omega)), Grow.refl _⟩
              case round =>
                obtain ⟨j, hk, rfl, H, hb⟩ := hrel
                have k0 : (0 : Int) ≤ (j : Int) := by omega
                have hrs := hb.size
                have b3' := (Below.cell hb (p := ⟨w.heap.size, 3, none⟩) (by simp only; omega)).trans b3
                by_cases hlt : j < k
                · have k1 : (j : Int) < (k : Int) := by omega
                  obtain ⟨g, o, rfl, hg, hki⟩ := HK.out (by omega)
                  obtain ⟨q0, q1, q2, q3, q4⟩ := hki j hlt
                  have hgr : g < wr.heap.size := by omega
                  have hw2r : Grow w wr := G4.out.trans hb
                  replace q0 := (Below.cell hw2r (p := ⟨g, _, none⟩) hg).trans q0
                  replace q1 := (Below.cell hw2r (p := ⟨g, _, none⟩) hg).trans q1
                  replace q2 := (Below.cell hw2r (p := ⟨g, _, none⟩) hg).trans q2
                  replace q3 := (Below.cell hw2r (p := ⟨g, _, none⟩) hg).trans q3
                  have HB := Lib.hid hb
                  have HW := Lib.hid hw2r
                  clear hw2r hb hki
                  by_cases t5 : (K j).kd = 1
                  · have HC : Hid (∀ W, Grow w W → Calls Try.prog 12 #[.agg #[.int .i64 1, .string (K j).tx, .int .i64 (K j).n, .slice (K j).ao (K j).l (K j).c]] W fun e w'' => e = .returned (.int .i64 (E j)) ∧ Grow W w'') :=
                      Lib.hid (fun W hW => by have := HI.out j hlt t5 W hW; unfold KidD.val at this; rw [t5] at this; exact this)
                    rw [t5] at q0
                    have HT := Lib.hid (show ((K j).kd == 1) = true from by simpa using t5)
                    clear t5
                    cases he : (E j != 0)
                    all_goals
                      have he' : (E j == 0) = !(E j != 0) := by simp [bne]
                      rw [he] at he'
                      simp only [Bool.not_false, Bool.not_true] at he'
                      have HE := Lib.hid he
                      clear he
                      go_wp2_with fail
                      refine (HC.out _ HW.out).mono ?_
                      rintro e w5 ⟨rfl, g5⟩
                      have G5 := Lib.hid g5
                      clear g5
                    · go_wp2
                      go_roundw
                      case rel => exact ⟨j + 1, by omega, by go_num, Lib.hid (fun i hi => by
                        rcases Nat.lt_or_ge i j with h | h
                        · exact H.out i h
                        · obtain rfl : i = j := by omega
                          unfold badKid; rw [HE.out, Bool.and_false]), HB.out.trans G5.out⟩
                      case measure => simp [intOf]; omega
                    · have hs : S = E j := by
                        rw [HS.out]; unfold chk1; rw [HOF.out]
                        simp only [HF.out, HA.out, range_find (badKid K E) hlt H.out (by unfold badKid; rw [HE.out, HT.out]; rfl)]
                        rfl
                      go_wp2
                      go_ret
                      exact ⟨ret_int hs.symm, HW.out.trans G5.out⟩
                  · have t6 : ((K j).kd == 1) = false := by simpa using t5
                    have HT := Lib.hid t6
                    clear t5
                    go_wp2
                    go_roundw
                    case rel => exact ⟨j + 1, by omega, by go_num, Lib.hid (fun i hi => by
                      rcases Nat.lt_or_ge i j with h | h
                      · exact H.out i h
                      · obtain rfl : i = j := by omega
                        unfold badKid; rw [HT.out, Bool.false_and]), HB.out⟩
                    case measure => simp [intOf]; omega
                · have k1 : ¬ (j : Int) < (k : Int) := by omega
                  obtain rfl : j = k := by omega
                  have hs : S = 0 := by
                    rw [HS.out]; unfold chk1; rw [HOF.out]
                    simp only [HF.out, HA.out, range_none (badKid K E) H.out]
                    rfl
                  subst hs
                  have HB := Lib.hid hb
                  clear hb
                  go_wp2
                  go_ret
                  exact ⟨rfl, G4.out.trans HB.out⟩
    · have t3 : (kd != 1) = true := by simpa using t1
      have t4 : (kd == 1) = false := by simpa using t1
      have hs : chk1 kd tx l K E = 11 := by unfold chk1; rw [t2, t3]; rfl
      rw [hs]
      clear hk IH hs
      go_enter Try.func12, Try.ntmps12
      go_wp2
      go_ret
      exact ⟨rfl, (Grow.refl _).alloc _⟩
end Go.Proofs.Ytfldpaceebemhaa
