/-
  The walk of graticuleref17.Names.
-/
import Derived.Test.YtfldpaceebemhaaN5
namespace Go.Proofs.Ytfldpaceebemhaa
open Go.RowKit

theorem src_of {W wq : World} (M : List ByteArray) (g o m c : Nat) (hg : g < W.heap.size) (hb : Below W.heap.size W wq) (hl : M.length = m) (h : ∀ q y, M[q]? = some y → W.cell? ⟨g, o + q, none⟩ = some (.string y)) :
    Src Try.prog 1 40 (.slice (some ⟨g, o, none⟩) m c) m (M.map Value.string) wq := by
  refine Src.ofSlice _ Try.underlying40 ⟨g, o, none⟩ m c _ (by simp [hl]) (fun q u hu => ?_) (fun u hu => ?_)
  · rw [List.getElem?_map, Option.map_eq_some_iff] at hu
    obtain ⟨y, hy, rfl⟩ := hu
    rw [Addr.add_lit]
    exact (hb.cell (p := ⟨g, o + q, none⟩) hg).trans (h q y hy)
  · obtain ⟨y, _, rfl⟩ := List.mem_map.mp hu
    rfl
theorem src_one {wq : World} {x : ByteArray} (g : Nat) (h : wq.cell? ⟨g, 0, none⟩ = some (.string x)) : Src Try.prog 1 40 (.slice (some ⟨g, 0, none⟩) 1 1) 1 [.string x] wq := by
  refine Src.ofSlice _ Try.underlying40 ⟨g, 0, none⟩ 1 1 _ rfl (fun q u hu => ?_) (fun u hu => ?_)
  · cases q with
    | zero => simp at hu; rw [Addr.add_lit, ← hu]; exact h
    | succ q => simp at hu
  · simp at hu; rw [hu]; rfl
theorem take_at {α : Type} {l : List α} {j q : Nat} {y : α} (h : (l.take j)[q]? = some y) : l[q]? = some y := by
  rw [List.getElem?_take] at h
  split at h
  · exact h
  · cases h
set_option maxRecDepth 100000 in
set_option maxHeartbeats 4000000 in
theorem names16_any (w : World) : Calls Try.prog 16 #[] w fun e w' => ∃ g c, e = .returned (.slice (some ⟨g, 0, none⟩) 78 c) ∧ NamesAt g namesS w' ∧ Grow w w' := by
  obtain ⟨i0, hi0, hz0, hz1, hz2⟩ := info_parts Try.info9
  have S0 := Lib.hid (World.ownsRow_nil w w.heap.size 9 1)
  go_enter Try.func16, Try.ntmps16
  go_wp2
  go_loopw [2, 1] (fun t lv wr => ∃ (k n : Nat) (l : Value), k ≤ 18 ∧ t = .int .i64 k ∧ l = lv ∧ Hid (n = (LK k).length) ∧ Hid (wr.ownsRow w.heap.size 9 1 l n ((LK k).map Value.string)) ∧ Grow w wr) (fun t _ _ => 18 - (intOf t).toNat)
  case atStart => exact ⟨0, 0, _, by omega, rfl, rfl, Lib.hid rfl, S0, Grow.refl _⟩
  case round =>
    clear S0
    obtain ⟨k, n, l, hk, rfl, rfl, HN, OW, hb⟩ := hrel
    have HB := Lib.hid hb
    have hsz := hb.size
    clear hb
    by_cases hlt : k < 18
    · have k1 : (k : Int) < 18 := by omega
      have k0 : (0 : Int) ≤ (k : Int) := by omega
      obtain ⟨L, hL⟩ : ∃ L, L = (nmsF k).length := ⟨_, rfl⟩
      have HL := Lib.hid hL
      have hL100 : L ≤ 100 := by rw [hL]; exact nmsF_len k hlt
      obtain ⟨O, hO⟩ : ∃ O, O = Obj.cells ((nmsF k).map Value.string).toArray 9 := ⟨_, rfl⟩
      have R26 : Hid (∀ W, Calls Try.prog 26 #[.int .i64 k] W fun e w' => e = .returned (.slice (some ⟨W.heap.size, 0, none⟩) L L) ∧ w' = W.alloc O) := Lib.hid (fun W => by rw [hL, hO]; exact row26 k hlt W)
      obtain ⟨W1, hW1⟩ : ∃ W1, W1 = wr.alloc O := ⟨_, rfl⟩
      obtain ⟨gr, hgr⟩ : ∃ gr, gr = wr.heap.size := ⟨_, rfl⟩
      have NA := Lib.hid (show NamesAt gr (nmsF k) W1 from by
        rw [hW1, hgr, hO]
        exact ⟨by simp, fun q y hy => (cells_alloc wr _ rfl (nmsF k) 9) q y hy⟩)
      have GW1 := Lib.hid (show Grow w W1 from by rw [hW1]; exact HB.out.alloc _)
      have OW1 := Lib.hid (show W1.ownsRow w.heap.size 9 1 l n ((LKI k 0).map Value.string) from by
        rw [hW1]; exact own_grow OW.out ((Grow.refl _).alloc _))
      have hgs : w.heap.size ≤ gr := by rw [hgr]; omega
      have R26' := Lib.hid (R26.out wr)
      rw [← hW1, ← hgr] at R26'
      clear hO hL R26 OW HB hsz hW1 hgr
      go_wp2_with fail
      refine R26'.out.mono ?_
      rintro e w2 ⟨rfl, rfl⟩
      clear R26'
      go_wp2
      go_loopw [4, 1] (fun t lv wr => ∃ (i n : Nat) (l : Value), i ≤ L ∧ t = .int .i64 i ∧ l = lv ∧ Hid (n = (LKI k i).length) ∧ Hid (wr.ownsRow w.heap.size 9 1 l n ((LKI k i).map Value.string)) ∧ Grow w2 wr) (fun t _ _ => L - (intOf t).toNat)
      case atStart => exact ⟨0, n, _, by omega, rfl, rfl, HN, OW1, Grow.refl _⟩
      case round =>
        clear HN OW1
        obtain ⟨wI, rfl⟩ : ∃ wI, wI = wr := ⟨_, rfl⟩
        obtain ⟨i, n, l, hi, rfl, rfl, HN, OW, hb⟩ := hrel
        have HB := Lib.hid hb
        have hsz := hb.size
        clear hb
        by_cases hlt2 : i < L
        · have k2 : (i : Int) < L := by omega
          have k3 : (0 : Int) ≤ (i : Int) := by omega
          obtain ⟨x, hx⟩ : ∃ x, (nmsF k)[i]? = some x := ⟨_, List.getElem?_eq_getElem (by rw [← HL.out]; exact hlt2)⟩
          have hxw := ((NA.out.grow HB.out).2 i x hx)
          have hgrw := (NA.out.grow HB.out).1
          have HX := Lib.hid hx
          have hn2 : n ≤ 2000 := by rw [HN.out]; exact LKI_len k i hlt
          clear hx
          have SRC : Hid (∀ j y, (LKI k i)[j]? = some y → ∃ g cap, l = .slice (some ⟨g, 0, none⟩) n cap ∧ wI.cell? ⟨g, j, none⟩ = some (.string y)) := Lib.hid (fun j y hy => by
            rcases own_form OW.out with ⟨_, h0⟩ | ⟨g, cap, h0⟩
            · rw [HN.out] at h0
              rw [List.eq_nil_of_length_eq_zero h0] at hy
              simp at hy
            · have hj : j < n := by
                rw [HN.out]
                rcases Nat.lt_or_ge j (LKI k i).length with h1 | h1
                · exact h1
                · rw [List.getElem?_eq_none h1] at hy; cases hy
              refine ⟨g, cap, h0, ?_⟩
              have own := OW.out
              rw [h0] at own
              have := World.ownsRow.cellAt own j (by omega)
              rw [this, List.getElem?_map, hy]
              rfl)
          obtain ⟨a, c, rfl⟩ : ∃ a c, l = .slice a n c := by
            rcases own_form OW.out with ⟨h1, h0⟩ | ⟨g, cap, h0⟩
            · exact ⟨none, 0, by rw [h1, h0]⟩
            · exact ⟨_, _, h0⟩
          go_wp2
          go_loopw [5] (fun t w5 => ∃ (j : Nat), j ≤ n ∧ t = .int .i64 j ∧ Hid (∀ q y, q < j → (LKI k i)[q]? = some y → ltB y x = true) ∧ Grow wI w5) (fun t _ => n - (intOf t).toNat)
          case atStart => exact ⟨0, by omega, rfl, Lib.hid (fun q y hq => absurd hq (by omega)), Grow.refl _⟩
          case round =>
            obtain ⟨j, hj, rfl, H, hb⟩ := hrel
            have hxw5 := (Below.cell hb (p := ⟨gr, i, none⟩) hgrw).trans hxw
            have j0 : (0 : Int) ≤ (j : Int) := by omega
            have HB5 := Lib.hid hb
            have hsz5 := hb.size
            clear hb
            by_cases hj2 : j < n
            · have k4 : (j : Int) < n := by omega
              have hd : decide (j < n) = true := by simp; omega
              obtain ⟨y, hy⟩ : ∃ y, (LKI k i)[j]? = some y := ⟨_, List.getElem?_eq_getElem (by rw [← HN.out]; exact hj2)⟩
              obtain ⟨g, cap, hl, hyw⟩ := SRC.out j y hy
              injection hl with hl1 _ hl2
              subst hl1
              have hglt : g < wI.heap.size := World.block_lt_of_cell? wI ⟨g, j, none⟩ hyw
              replace hyw := (Below.cell HB5.out (p := ⟨g, j, none⟩) hglt).trans hyw
              have HY := Lib.hid hy
              clear hy hl2
              cases hlt3 : ltB y x with
              | true =>
                have HLT := Lib.hid hlt3
                have hlb : Op.bytesLess y.toList x.toList = true := hlt3
                clear hlt3
                go_wp2
                go_quiet (fail)
                go_wp2
                go_roundw
                case rel => exact ⟨j + 1, by omega, by go_num, Lib.hid (fun q z hq hz => by
                  rcases Nat.lt_or_ge q j with h | h
                  · exact H.out q z h hz
                  · obtain rfl : q = j := by omega
                    rw [HY.out] at hz
                    injection hz with hz
                    rw [← hz]; exact HLT.out), below_drewN HB5.out _⟩
                case measure => simp [intOf]; omega
              | false =>
                have HLT := Lib.hid hlt3
                have hlb : Op.bytesLess y.toList x.toList = false := hlt3
                clear hlt3
                have HJ := Lib.hid (insAt_eq (LKI k i) x j (fun q z hq hz => H.out q z hq hz) (fun z hz => by rw [HY.out] at hz; injection hz with hz; rw [← hz]; exact HLT.out) (by rw [← HN.out]; omega))
                go_wp2
                go_quiet (fail)
                obtain ⟨W, hW⟩ : ∃ W, W = wr.drewN nq := ⟨_, rfl⟩
                have GW := Lib.hid (show Grow wI W from by rw [hW]; exact below_drewN HB5.out _)
                rw [← hW]
                clear hW
                have zW := GW.out.size
                have xW : W.cell? ⟨gr, i, none⟩ = some (.string x) := (Below.cell GW.out (p := ⟨gr, i, none⟩) hgrw).trans hxw
                have grW : gr < W.heap.size := by omega
                have CLW := Lib.hid (show g < W.heap.size ∧ ∀ q y, (LKI k i)[q]? = some y → W.cell? ⟨g, q, none⟩ = some (.string y) from ⟨by omega, fun q y hy => by
                  obtain ⟨g', cap', hl', hc'⟩ := SRC.out q y hy
                  injection hl' with hl1 _ hl2
                  injection hl1 with hl1
                  injection hl1 with hl1 _ _
                  subst hl1
                  exact (Below.cell GW.out (p := ⟨_, q, none⟩) (World.block_lt_of_cell? wI ⟨_, q, none⟩ hc')).trans hc'⟩)
                have hjc : (j : Int) ≤ (c : Int) := by
                  obtain ⟨_, _, _, _, h4, _⟩ := own_at.1 OW.out
                  omega
                have hnc : (n : Int) ≤ (c : Int) := by
                  obtain ⟨_, _, _, _, h4, _⟩ := own_at.1 OW.out
                  omega
                have hjn : (j : Int) ≤ (n : Int) := by omega
                have LJ := Lib.hid (show (((LKI k i).take j).map Value.string).length = j from by rw [List.length_map, List.length_take, ← HN.out]; omega)
                go_wp2
                refine wp_region_R' (Rn W.heap.size (.slice (some ⟨g, 0, none⟩) n c) (.slice (some ⟨gr, 0, none⟩) L L) (.slice (some ⟨g, 0, none⟩) j c) j i gr x (((LKI k i).take j).map Value.string)) Rn.refl Rn.trans (Rn.grow ((Grow.refl _).drew) (Nat.le_refl _)) (Ph W.heap.size (.slice (some ⟨g, 0, none⟩) n c) (.slice (some ⟨gr, 0, none⟩) L L) (.slice (some ⟨g, 0, none⟩) j c) j i gr x (((LKI k i).take j).map Value.string)) (by kernel_rfl) (by kernel_rfl) (fun _ _ _ _ h hv => h.2 _ _ hv) ?_ ?_
                · intro xv wq hR
                  refine ⟨fun hp => ?_, fun hp => ?_, fun hp => ?_, fun hp => ?_, fun hp => ?_, fun hp => ?_, fun hp => ?_, fun hp => ?_, fun hp => ?_, fun hp => ?_, fun hp => ?_, fun hp => ?_, trivial⟩
                  · unfold PStepR
                    rw [if_pos (by rfl)]
                    intro K hK
                    simp only [fillFrom, Act.put, List.setIfInBounds_toArray, List.set_cons_zero, List.set_cons_succ, Nat.reduceAdd] at hK ⊢
                    go_simp
                    exact hK _ _ (Rn.grow ((Grow.refl _).alloc _) hR.1.size) ⟨⟨_, rfl⟩, ownsRow_empty0 wq W.heap.size 9 1 hR.1.size⟩
                  · unfold PStepR
                    rw [if_pos (by rfl)]
                    intro K hK
                    simp only [fillFrom, Act.put, List.setIfInBounds_toArray, List.set_cons_zero, List.set_cons_succ, Nat.reduceAdd] at hK ⊢
                    go_simp
                    exact hK _ _ (Rn.refl _) rfl
                  · unfold PStepR
                    rw [if_pos (by rfl)]
                    intro K hK
                    simp only [fillFrom, Act.put, List.setIfInBounds_toArray, List.set_cons_zero, List.set_cons_succ, Nat.reduceAdd] at hK ⊢
                    go_simp
                    exact hK _ _ (Rn.refl _) rfl
                  · have h1 : xv 1 = .slice (some ⟨g, 0, none⟩) n c := hp.1 rfl
                    have h2 : xv 2 = .int .i64 (j : Nat) := hp.2.1 rfl
                    unfold PStepR
                    rw [if_pos (by rfl)]
                    intro K hK
                    simp only [fillFrom, Act.put, List.setIfInBounds_toArray, List.set_cons_zero, List.set_cons_succ, Nat.reduceAdd, h1, h2] at hK ⊢
                    go_simp
                    exact hK _ _ (Rn.refl _) rfl
                  · obtain ⟨⟨g0, h0⟩, own0⟩ : (∃ g, xv 0 = .slice (some ⟨g, 0, none⟩) 0 0) ∧ wq.ownsRow W.heap.size 9 1 (xv 0) 0 [] := hp.1 rfl
                    have h3 : xv 3 = .slice (some ⟨g, 0, none⟩) j c := hp.2.1 rfl
                    rw [h0] at own0
                    unfold PStepR
                    rw [if_pos (by rfl)]
                    intro K hK
                    simp only [fillFrom, Act.put, List.setIfInBounds_toArray, List.set_cons_zero, List.set_cons_succ, Nat.reduceAdd, h0, h3] at hK ⊢
                    refine wp_append_fresh wq _ _ 40 40 (by rfl) W.heap.size 9 i0 _ 1 16 Try.underlying40 hi0 hz0 hz1 hz2 rfl _ (by rfl) (.inr ⟨g0, rfl⟩) own0 _ (by rfl) j (((LKI k i).take j).map Value.string) (src_of ((LKI k i).take j) g 0 j c CLW.out.1 hR.1 (by rw [List.length_take, ← HN.out]; omega) (fun q y hy => by rw [Nat.zero_add]; exact CLW.out.2 q y (take_at hy))) (by unfold maxLen; omega) (by omega) hR.1.size ?_
                    intro v' w' hown' hgrow' _ _
                    exact hK _ _ (Rn.grow hgrow' hR.1.size) hown'
                  · unfold PStepR
                    rw [if_pos (by rfl)]
                    intro K hK
                    simp only [fillFrom, Act.put, List.setIfInBounds_toArray, List.set_cons_zero, List.set_cons_succ, Nat.reduceAdd] at hK ⊢
                    go_simp
                    exact hK _ _ (Rn.refl _) rfl
                  · unfold PStepR
                    rw [if_pos (by rfl)]
                    intro K hK
                    simp only [fillFrom, Act.put, List.setIfInBounds_toArray, List.set_cons_zero, List.set_cons_succ, Nat.reduceAdd] at hK ⊢
                    go_simp
                    exact hK _ _ (Rn.refl _) rfl
                  · have h5 : xv 5 = .slice (some ⟨gr, 0, none⟩) L L := hp.1 rfl
                    have h6 : xv 6 = .int .i64 i := hp.2.1 rfl
                    unfold PStepR
                    rw [if_pos (by rfl)]
                    intro K hK
                    simp only [fillFrom, Act.put, List.setIfInBounds_toArray, List.set_cons_zero, List.set_cons_succ, Nat.reduceAdd, h5, h6] at hK ⊢
                    go_simp
                    exact hK _ _ (Rn.refl _) rfl
                  · have h7 : xv 7 = .pointer (some ⟨gr, i, none⟩) := hp.1 rfl
                    have xq : wq.cell? ⟨gr, i, none⟩ = some (.string x) := (hR.1.cell (p := ⟨gr, i, none⟩) grW).trans xW
                    unfold PStepR
                    rw [if_pos (by rfl)]
                    intro K hK
                    simp only [fillFrom, Act.put, List.setIfInBounds_toArray, List.set_cons_zero, List.set_cons_succ, Nat.reduceAdd, h7] at hK ⊢
                    go_simp
                    exact hK _ _ (Rn.refl _) rfl
                  · have h8 : xv 8 = .string x := hp.1 rfl
                    unfold PStepR
                    rw [if_pos (by rfl)]
                    intro K hK
                    simp only [fillFrom, Act.put, List.setIfInBounds_toArray, List.set_cons_zero, List.set_cons_succ, Nat.reduceAdd, h8] at hK ⊢
                    go_simp
                    exact hK _ _ (Rn.grow ((Grow.refl _).alloc _) hR.1.size) ⟨_, rfl, by simp, by rw [cell_blk (heap_alloc_new wq (.cells #[.string x] 9)) 0]; rfl⟩
                  · have h4 : wq.ownsRow W.heap.size 9 1 (xv 4) j (((LKI k i).take j).map Value.string) := hp.1 rfl
                    obtain ⟨g9, h9, _, hc9⟩ : ∃ g, xv 9 = .slice (some ⟨g, 0, none⟩) 1 1 ∧ g < wq.heap.size ∧ wq.cell? ⟨g, 0, none⟩ = some (.string x) := hp.2.1 rfl
                    unfold PStepR
                    rw [if_pos (by rfl)]
                    intro K hK
                    simp only [fillFrom, Act.put, List.setIfInBounds_toArray, List.set_cons_zero, List.set_cons_succ, Nat.reduceAdd, h9] at hK ⊢
                    refine wp_append_srcs wq _ _ 40 40 (by rfl) W.heap.size 9 i0 _ 16 Try.underlying40 hi0 hz0 hz1 hz2 rfl (xv 4) (by rfl) j (((LKI k i).take j).map Value.string) h4 _ (by rfl) 1 [.string x] (src_one g9 hc9) (by unfold maxLen; omega) (by omega) hR.1.size ?_
                    intro v' w' hown' hcase
                    rcases hcase with hg | ⟨g4, cap4, e1, e2, hg⟩
                    · exact hK _ _ (Rn.grow hg hR.1.size) hown'
                    · rw [e1] at h4
                      subst e2
                      exact hK _ _ ⟨Below.grown (Below.refl _ _) hg hR.1.size (fun q hq => by injection hq with hq; rw [← hq]; exact (own_at.1 h4).2.1), fun _ _ => Ph.room hg h4 hown'⟩ hown'
                  · have h10 : wq.ownsRow W.heap.size 9 1 (xv 10) (j + 1) ((((LKI k i).take j).map Value.string) ++ [.string x]) := hp.1 rfl
                    unfold PStepR
                    rw [if_pos (by rfl)]
                    intro K hK
                    simp only [fillFrom, Act.put, List.setIfInBounds_toArray, List.set_cons_zero, List.set_cons_succ, Nat.reduceAdd] at hK ⊢
                    go_simp
                    exact hK _ _ (Rn.refl _) h10
                · intro xv w9 hR hP
                  have e11 : w9.ownsRow W.heap.size 9 1 (xv 11) (j + 1) ((((LKI k i).take j).map Value.string) ++ [.string x]) := hP.2.2.2.2.2.2.2.2.2.2.2.1
                  obtain ⟨V, hV⟩ : ∃ V, V = xv 11 := ⟨_, rfl⟩
                  rw [← hV] at e11
                  simp only [fillFrom, Act.put, List.setIfInBounds_toArray, List.set_cons_zero, List.set_cons_succ, Nat.reduceAdd, ← hV]
                  have E11 := Lib.hid e11
                  have HR := Lib.hid hR.1
                  have z9 := hR.1.size
                  have SR13 := Lib.hid (src_of ((LKI k i).drop j) g j (n - j) (c - j) CLW.out.1 hR.1 (by rw [List.length_drop, ← HN.out]; try omega) (fun q y hy => CLW.out.2 (j + q) y (by rw [← hy, List.getElem?_drop])))
                  clear hP hV e11 hR
                  go_wp2_with (at_builtin; refine wpList_append_srcs _ (by rfl) _ _ 40 40 (by rfl) W.heap.size 9 i0 _ 16 Try.underlying40 hi0 hz0 hz1 hz2 rfl _ (by rfl) (j + 1) _ E11.out _ (by rfl) _ _ SR13.out (by unfold maxLen; omega) (by omega) z9 ?_; intro v8 w8 hown8 hcase8; have H8 := Lib.hid (And.intro hown8 hcase8); clear hown8 hcase8)
                  obtain ⟨hown8, hcase8⟩ := H8.out
                  have OW8 := Lib.hid (show w8.ownsRow w.heap.size 9 1 v8 (n + 1) ((LKI k (i + 1)).map Value.string) from by
                    rw [LKI_next k i x HX.out]
                    unfold insN
                    rw [HJ.out, List.map_append, List.map_append]
                    have := ownsRow_base (C := w.heap.size) hown8 (by omega)
                    rw [show n + 1 = j + 1 + (n - j) from by omega]
                    exact this)
                  have G8 := Lib.hid (show Grow w2 w8 from by
                    have h9 : Grow w2 w9 := (HB.out.trans GW.out).trans HR.out
                    rcases hcase8 with hg | ⟨g6, cap6, e1, _, hg⟩
                    · exact h9.trans hg
                    · refine (HB.out.trans GW.out).trans' HR.out hg (fun q hq => ?_)
                      injection hq with hq
                      have := E11.out
                      rw [e1] at this
                      rw [← hq]
                      have := (own_at.1 this).2.1
                      omega)
                  have HN8 := Lib.hid (show n + 1 = (LKI k (i + 1)).length from by rw [LKI_next k i x HX.out, insN_len, ← HN.out])
                  clear H8 hown8 hcase8
                  go_roundw
                  case rel => exact ⟨i + 1, n + 1, _, by omega, by go_num, rfl, HN8, OW8, G8.out⟩
                  case measure => simp [intOf]; omega
            · have hd : decide (j < n) = false := by simp; omega
              have k4 : ¬ (j : Int) < n := by omega
              have HJ := Lib.hid (insAt_eq (LKI k i) x j (fun q z hq hz => H.out q z hq hz) (fun z hz => by rw [List.getElem?_eq_none (by rw [← HN.out]; omega)] at hz; cases hz) (by rw [← HN.out]; omega))
              rcases own_form OW.out with ⟨h1, h0⟩ | ⟨g, cap, h1⟩
              · injection h1 with h1 _ h2
                subst h1 h2
                subst h0
                obtain rfl : j = 0 := by omega
                go_wp2
                go_quiet (fail)
                obtain ⟨W, hW⟩ : ∃ W, W = wr.drewN nq := ⟨_, rfl⟩
                have GW := Lib.hid (show Grow wI W from by rw [hW]; exact below_drewN HB5.out _)
                rw [← hW]
                clear hW
                have zW := GW.out.size
                have xW : W.cell? ⟨gr, i, none⟩ = some (.string x) := (Below.cell GW.out (p := ⟨gr, i, none⟩) hgrw).trans hxw
                have grW : gr < W.heap.size := by omega

                have LJ := Lib.hid (show (((LKI k i).take 0).map Value.string).length = 0 from by rw [List.length_map, List.length_take, ← HN.out]; omega)
                go_wp2
                refine wp_region_R' (Rn W.heap.size (.slice none 0 0) (.slice (some ⟨gr, 0, none⟩) L L) (.slice none 0 0) 0 i gr x (((LKI k i).take 0).map Value.string)) Rn.refl Rn.trans (Rn.grow ((Grow.refl _).drew) (Nat.le_refl _)) (Ph W.heap.size (.slice none 0 0) (.slice (some ⟨gr, 0, none⟩) L L) (.slice none 0 0) 0 i gr x (((LKI k i).take 0).map Value.string)) (by kernel_rfl) (by kernel_rfl) (fun _ _ _ _ h hv => h.2 _ _ hv) ?_ ?_
                · intro xv wq hR
                  refine ⟨fun hp => ?_, fun hp => ?_, fun hp => ?_, fun hp => ?_, fun hp => ?_, fun hp => ?_, fun hp => ?_, fun hp => ?_, fun hp => ?_, fun hp => ?_, fun hp => ?_, fun hp => ?_, trivial⟩
                  · unfold PStepR
                    rw [if_pos (by rfl)]
                    intro K hK
                    simp only [fillFrom, Act.put, List.setIfInBounds_toArray, List.set_cons_zero, List.set_cons_succ, Nat.reduceAdd] at hK ⊢
                    go_simp
                    exact hK _ _ (Rn.grow ((Grow.refl _).alloc _) hR.1.size) ⟨⟨_, rfl⟩, ownsRow_empty0 wq W.heap.size 9 1 hR.1.size⟩
                  · unfold PStepR
                    rw [if_pos (by rfl)]
                    intro K hK
                    simp only [fillFrom, Act.put, List.setIfInBounds_toArray, List.set_cons_zero, List.set_cons_succ, Nat.reduceAdd] at hK ⊢
                    go_simp
                    exact hK _ _ (Rn.refl _) rfl
                  · unfold PStepR
                    rw [if_pos (by rfl)]
                    intro K hK
                    simp only [fillFrom, Act.put, List.setIfInBounds_toArray, List.set_cons_zero, List.set_cons_succ, Nat.reduceAdd] at hK ⊢
                    go_simp
                    exact hK _ _ (Rn.refl _) rfl
                  · have h1 : xv 1 = .slice none 0 0 := hp.1 rfl
                    have h2 : xv 2 = .int .i64 (0 : Nat) := hp.2.1 rfl
                    unfold PStepR
                    rw [if_pos (by rfl)]
                    intro K hK
                    simp only [fillFrom, Act.put, List.setIfInBounds_toArray, List.set_cons_zero, List.set_cons_succ, Nat.reduceAdd, h1, h2] at hK ⊢
                    go_simp
                    exact hK _ _ (Rn.refl _) rfl
                  · obtain ⟨⟨g0, h0⟩, own0⟩ : (∃ g, xv 0 = .slice (some ⟨g, 0, none⟩) 0 0) ∧ wq.ownsRow W.heap.size 9 1 (xv 0) 0 [] := hp.1 rfl
                    have h3 : xv 3 = .slice none 0 0 := hp.2.1 rfl
                    rw [h0] at own0
                    unfold PStepR
                    rw [if_pos (by rfl)]
                    intro K hK
                    simp only [fillFrom, Act.put, List.setIfInBounds_toArray, List.set_cons_zero, List.set_cons_succ, Nat.reduceAdd, h0, h3] at hK ⊢
                    refine wp_append_fresh wq _ _ 40 40 (by rfl) W.heap.size 9 i0 _ 1 16 Try.underlying40 hi0 hz0 hz1 hz2 rfl _ (by rfl) (.inr ⟨g0, rfl⟩) own0 _ (by rfl) 0 (((LKI k i).take 0).map Value.string) (Src.ofNil _ Try.underlying40 0) (by unfold maxLen; omega) (by omega) hR.1.size ?_
                    intro v' w' hown' hgrow' _ _
                    exact hK _ _ (Rn.grow hgrow' hR.1.size) hown'
                  · unfold PStepR
                    rw [if_pos (by rfl)]
                    intro K hK
                    simp only [fillFrom, Act.put, List.setIfInBounds_toArray, List.set_cons_zero, List.set_cons_succ, Nat.reduceAdd] at hK ⊢
                    go_simp
                    exact hK _ _ (Rn.refl _) rfl
                  · unfold PStepR
                    rw [if_pos (by rfl)]
                    intro K hK
                    simp only [fillFrom, Act.put, List.setIfInBounds_toArray, List.set_cons_zero, List.set_cons_succ, Nat.reduceAdd] at hK ⊢
                    go_simp
                    exact hK _ _ (Rn.refl _) rfl
                  · have h5 : xv 5 = .slice (some ⟨gr, 0, none⟩) L L := hp.1 rfl
                    have h6 : xv 6 = .int .i64 i := hp.2.1 rfl
                    unfold PStepR
                    rw [if_pos (by rfl)]
                    intro K hK
                    simp only [fillFrom, Act.put, List.setIfInBounds_toArray, List.set_cons_zero, List.set_cons_succ, Nat.reduceAdd, h5, h6] at hK ⊢
                    go_simp
                    exact hK _ _ (Rn.refl _) rfl
                  · have h7 : xv 7 = .pointer (some ⟨gr, i, none⟩) := hp.1 rfl
                    have xq : wq.cell? ⟨gr, i, none⟩ = some (.string x) := (hR.1.cell (p := ⟨gr, i, none⟩) grW).trans xW
                    unfold PStepR
                    rw [if_pos (by rfl)]
                    intro K hK
                    simp only [fillFrom, Act.put, List.setIfInBounds_toArray, List.set_cons_zero, List.set_cons_succ, Nat.reduceAdd, h7] at hK ⊢
                    go_simp
                    exact hK _ _ (Rn.refl _) rfl
                  · have h8 : xv 8 = .string x := hp.1 rfl
                    unfold PStepR
                    rw [if_pos (by rfl)]
                    intro K hK
                    simp only [fillFrom, Act.put, List.setIfInBounds_toArray, List.set_cons_zero, List.set_cons_succ, Nat.reduceAdd, h8] at hK ⊢
                    go_simp
                    exact hK _ _ (Rn.grow ((Grow.refl _).alloc _) hR.1.size) ⟨_, rfl, by simp, by rw [cell_blk (heap_alloc_new wq (.cells #[.string x] 9)) 0]; rfl⟩
                  · have h4 : wq.ownsRow W.heap.size 9 1 (xv 4) 0 (((LKI k i).take 0).map Value.string) := hp.1 rfl
                    obtain ⟨g9, h9, _, hc9⟩ : ∃ g, xv 9 = .slice (some ⟨g, 0, none⟩) 1 1 ∧ g < wq.heap.size ∧ wq.cell? ⟨g, 0, none⟩ = some (.string x) := hp.2.1 rfl
                    unfold PStepR
                    rw [if_pos (by rfl)]
                    intro K hK
                    simp only [fillFrom, Act.put, List.setIfInBounds_toArray, List.set_cons_zero, List.set_cons_succ, Nat.reduceAdd, h9] at hK ⊢
                    refine wp_append_srcs wq _ _ 40 40 (by rfl) W.heap.size 9 i0 _ 16 Try.underlying40 hi0 hz0 hz1 hz2 rfl (xv 4) (by rfl) 0 (((LKI k i).take 0).map Value.string) h4 _ (by rfl) 1 [.string x] (src_one g9 hc9) (by unfold maxLen; omega) (by omega) hR.1.size ?_
                    intro v' w' hown' hcase
                    rcases hcase with hg | ⟨g4, cap4, e1, e2, hg⟩
                    · exact hK _ _ (Rn.grow hg hR.1.size) hown'
                    · rw [e1] at h4
                      subst e2
                      exact hK _ _ ⟨Below.grown (Below.refl _ _) hg hR.1.size (fun q hq => by injection hq with hq; rw [← hq]; exact (own_at.1 h4).2.1), fun _ _ => Ph.room hg h4 hown'⟩ hown'
                  · have h10 : wq.ownsRow W.heap.size 9 1 (xv 10) (0 + 1) ((((LKI k i).take 0).map Value.string) ++ [.string x]) := hp.1 rfl
                    unfold PStepR
                    rw [if_pos (by rfl)]
                    intro K hK
                    simp only [fillFrom, Act.put, List.setIfInBounds_toArray, List.set_cons_zero, List.set_cons_succ, Nat.reduceAdd] at hK ⊢
                    go_simp
                    exact hK _ _ (Rn.refl _) h10
                · intro xv w9 hR hP
                  have e11 : w9.ownsRow W.heap.size 9 1 (xv 11) (0 + 1) ((((LKI k i).take 0).map Value.string) ++ [.string x]) := hP.2.2.2.2.2.2.2.2.2.2.2.1
                  obtain ⟨V, hV⟩ : ∃ V, V = xv 11 := ⟨_, rfl⟩
                  rw [← hV] at e11
                  simp only [fillFrom, Act.put, List.setIfInBounds_toArray, List.set_cons_zero, List.set_cons_succ, Nat.reduceAdd, ← hV]
                  have E11 := Lib.hid e11
                  have HR := Lib.hid hR.1
                  have z9 := hR.1.size
                  have hnil : LKI k i = [] := List.eq_nil_of_length_eq_zero HN.out.symm
                  have SR13 : Hid (Src Try.prog 1 40 (.slice none 0 0) 0 (((LKI k i).drop 0).map Value.string) w9) := Lib.hid (by rw [hnil]; exact Src.ofNil _ Try.underlying40 0)
                  clear hnil
                  clear hP hV e11 hR
                  go_wp2_with (at_builtin; refine wpList_append_srcs _ (by rfl) _ _ 40 40 (by rfl) W.heap.size 9 i0 _ 16 Try.underlying40 hi0 hz0 hz1 hz2 rfl _ (by rfl) (0 + 1) _ E11.out _ (by rfl) _ _ SR13.out (by unfold maxLen; omega) (by omega) z9 ?_; intro v8 w8 hown8 hcase8; have H8 := Lib.hid (And.intro hown8 hcase8); clear hown8 hcase8)
                  obtain ⟨hown8, hcase8⟩ := H8.out
                  have OW8 := Lib.hid (show w8.ownsRow w.heap.size 9 1 v8 (0 + 1) ((LKI k (i + 1)).map Value.string) from by
                    rw [LKI_next k i x HX.out]
                    unfold insN
                    rw [HJ.out, List.map_append, List.map_append]
                    have := ownsRow_base (C := w.heap.size) hown8 (by omega)
                    rw [show 0 + 1 = 0 + 1 + (0 - 0) from by omega]
                    exact this)
                  have G8 := Lib.hid (show Grow w2 w8 from by
                    have h9 : Grow w2 w9 := (HB.out.trans GW.out).trans HR.out
                    rcases hcase8 with hg | ⟨g6, cap6, e1, _, hg⟩
                    · exact h9.trans hg
                    · refine (HB.out.trans GW.out).trans' HR.out hg (fun q hq => ?_)
                      injection hq with hq
                      have := E11.out
                      rw [e1] at this
                      rw [← hq]
                      have := (own_at.1 this).2.1
                      omega)
                  have HN8 := Lib.hid (show 0 + 1 = (LKI k (i + 1)).length from by rw [LKI_next k i x HX.out, insN_len, ← HN.out])
                  clear H8 hown8 hcase8
                  go_roundw
                  case rel => exact ⟨i + 1, 0 + 1, _, by omega, by go_num, rfl, HN8, OW8, G8.out⟩
                  case measure => simp [intOf]; omega
              · injection h1 with h1 _ h2
                subst h1 h2
                have hglt : g < wI.heap.size := by
                  obtain ⟨_, _, cur, h4, _⟩ := own_at.1 OW.out
                  rcases Nat.lt_or_ge g wI.heap.size with h | h
                  · exact h
                  · rw [Array.getElem?_eq_none h] at h4; cases h4
                obtain rfl : n = j := by omega
                rcases Nat.lt_or_ge n c with hlc | hlc
                · have hlc' : (n : Int) < (c : Int) := by omega
                  go_wp2
                  go_quiet (fail)
                  obtain ⟨W, hW⟩ : ∃ W, W = wr.drewN nq := ⟨_, rfl⟩
                  have GW := Lib.hid (show Grow wI W from by rw [hW]; exact below_drewN HB5.out _)
                  rw [← hW]
                  clear hW
                  have zW := GW.out.size
                  have xW : W.cell? ⟨gr, i, none⟩ = some (.string x) := (Below.cell GW.out (p := ⟨gr, i, none⟩) hgrw).trans hxw
                  have grW : gr < W.heap.size := by omega
                  have CLW := Lib.hid (show g < W.heap.size ∧ ∀ q y, (LKI k i)[q]? = some y → W.cell? ⟨g, q, none⟩ = some (.string y) from ⟨by omega, fun q y hy => by
                    obtain ⟨g', cap', hl', hc'⟩ := SRC.out q y hy
                    injection hl' with hl1 _ hl2
                    injection hl1 with hl1
                    injection hl1 with hl1 _ _
                    subst hl1
                    exact (Below.cell GW.out (p := ⟨_, q, none⟩) (World.block_lt_of_cell? wI ⟨_, q, none⟩ hc')).trans hc'⟩)
                  have hjc : (n : Int) ≤ (c : Int) := by
                    obtain ⟨_, _, _, _, h4, _⟩ := own_at.1 OW.out
                    omega
                  have hnc : (n : Int) ≤ (c : Int) := by
                    obtain ⟨_, _, _, _, h4, _⟩ := own_at.1 OW.out
                    omega
                  have hjn : (n : Int) ≤ (n : Int) := by omega
                  have LJ := Lib.hid (show (((LKI k i).take n).map Value.string).length = n from by rw [List.length_map, List.length_take, ← HN.out]; omega)
                  go_wp2
                  refine wp_region_R' (Rn W.heap.size (.slice (some ⟨g, 0, none⟩) n c) (.slice (some ⟨gr, 0, none⟩) L L) (.slice (some ⟨g, 0, none⟩) n c) n i gr x (((LKI k i).take n).map Value.string)) Rn.refl Rn.trans (Rn.grow ((Grow.refl _).drew) (Nat.le_refl _)) (Ph W.heap.size (.slice (some ⟨g, 0, none⟩) n c) (.slice (some ⟨gr, 0, none⟩) L L) (.slice (some ⟨g, 0, none⟩) n c) n i gr x (((LKI k i).take n).map Value.string)) (by kernel_rfl) (by kernel_rfl) (fun _ _ _ _ h hv => h.2 _ _ hv) ?_ ?_
                  · intro xv wq hR
                    refine ⟨fun hp => ?_, fun hp => ?_, fun hp => ?_, fun hp => ?_, fun hp => ?_, fun hp => ?_, fun hp => ?_, fun hp => ?_, fun hp => ?_, fun hp => ?_, fun hp => ?_, fun hp => ?_, trivial⟩
                    · unfold PStepR
                      rw [if_pos (by rfl)]
                      intro K hK
                      simp only [fillFrom, Act.put, List.setIfInBounds_toArray, List.set_cons_zero, List.set_cons_succ, Nat.reduceAdd] at hK ⊢
                      go_simp
                      exact hK _ _ (Rn.grow ((Grow.refl _).alloc _) hR.1.size) ⟨⟨_, rfl⟩, ownsRow_empty0 wq W.heap.size 9 1 hR.1.size⟩
                    · unfold PStepR
                      rw [if_pos (by rfl)]
                      intro K hK
                      simp only [fillFrom, Act.put, List.setIfInBounds_toArray, List.set_cons_zero, List.set_cons_succ, Nat.reduceAdd] at hK ⊢
                      go_simp
                      exact hK _ _ (Rn.refl _) rfl
                    · unfold PStepR
                      rw [if_pos (by rfl)]
                      intro K hK
                      simp only [fillFrom, Act.put, List.setIfInBounds_toArray, List.set_cons_zero, List.set_cons_succ, Nat.reduceAdd] at hK ⊢
                      go_simp
                      exact hK _ _ (Rn.refl _) rfl
                    · have h1 : xv 1 = .slice (some ⟨g, 0, none⟩) n c := hp.1 rfl
                      have h2 : xv 2 = .int .i64 (n : Nat) := hp.2.1 rfl
                      unfold PStepR
                      rw [if_pos (by rfl)]
                      intro K hK
                      simp only [fillFrom, Act.put, List.setIfInBounds_toArray, List.set_cons_zero, List.set_cons_succ, Nat.reduceAdd, h1, h2] at hK ⊢
                      go_simp
                      exact hK _ _ (Rn.refl _) rfl
                    · obtain ⟨⟨g0, h0⟩, own0⟩ : (∃ g, xv 0 = .slice (some ⟨g, 0, none⟩) 0 0) ∧ wq.ownsRow W.heap.size 9 1 (xv 0) 0 [] := hp.1 rfl
                      have h3 : xv 3 = .slice (some ⟨g, 0, none⟩) n c := hp.2.1 rfl
                      rw [h0] at own0
                      unfold PStepR
                      rw [if_pos (by rfl)]
                      intro K hK
                      simp only [fillFrom, Act.put, List.setIfInBounds_toArray, List.set_cons_zero, List.set_cons_succ, Nat.reduceAdd, h0, h3] at hK ⊢
                      refine wp_append_fresh wq _ _ 40 40 (by rfl) W.heap.size 9 i0 _ 1 16 Try.underlying40 hi0 hz0 hz1 hz2 rfl _ (by rfl) (.inr ⟨g0, rfl⟩) own0 _ (by rfl) n (((LKI k i).take n).map Value.string) (src_of ((LKI k i).take n) g 0 n c CLW.out.1 hR.1 (by rw [List.length_take, ← HN.out]; omega) (fun q y hy => by rw [Nat.zero_add]; exact CLW.out.2 q y (take_at hy))) (by unfold maxLen; omega) (by omega) hR.1.size ?_
                      intro v' w' hown' hgrow' _ _
                      exact hK _ _ (Rn.grow hgrow' hR.1.size) hown'
                    · unfold PStepR
                      rw [if_pos (by rfl)]
                      intro K hK
                      simp only [fillFrom, Act.put, List.setIfInBounds_toArray, List.set_cons_zero, List.set_cons_succ, Nat.reduceAdd] at hK ⊢
                      go_simp
                      exact hK _ _ (Rn.refl _) rfl
                    · unfold PStepR
                      rw [if_pos (by rfl)]
                      intro K hK
                      simp only [fillFrom, Act.put, List.setIfInBounds_toArray, List.set_cons_zero, List.set_cons_succ, Nat.reduceAdd] at hK ⊢
                      go_simp
                      exact hK _ _ (Rn.refl _) rfl
                    · have h5 : xv 5 = .slice (some ⟨gr, 0, none⟩) L L := hp.1 rfl
                      have h6 : xv 6 = .int .i64 i := hp.2.1 rfl
                      unfold PStepR
                      rw [if_pos (by rfl)]
                      intro K hK
                      simp only [fillFrom, Act.put, List.setIfInBounds_toArray, List.set_cons_zero, List.set_cons_succ, Nat.reduceAdd, h5, h6] at hK ⊢
                      go_simp
                      exact hK _ _ (Rn.refl _) rfl
                    · have h7 : xv 7 = .pointer (some ⟨gr, i, none⟩) := hp.1 rfl
                      have xq : wq.cell? ⟨gr, i, none⟩ = some (.string x) := (hR.1.cell (p := ⟨gr, i, none⟩) grW).trans xW
                      unfold PStepR
                      rw [if_pos (by rfl)]
                      intro K hK
                      simp only [fillFrom, Act.put, List.setIfInBounds_toArray, List.set_cons_zero, List.set_cons_succ, Nat.reduceAdd, h7] at hK ⊢
                      go_simp
                      exact hK _ _ (Rn.refl _) rfl
                    · have h8 : xv 8 = .string x := hp.1 rfl
                      unfold PStepR
                      rw [if_pos (by rfl)]
                      intro K hK
                      simp only [fillFrom, Act.put, List.setIfInBounds_toArray, List.set_cons_zero, List.set_cons_succ, Nat.reduceAdd, h8] at hK ⊢
                      go_simp
                      exact hK _ _ (Rn.grow ((Grow.refl _).alloc _) hR.1.size) ⟨_, rfl, by simp, by rw [cell_blk (heap_alloc_new wq (.cells #[.string x] 9)) 0]; rfl⟩
                    · have h4 : wq.ownsRow W.heap.size 9 1 (xv 4) n (((LKI k i).take n).map Value.string) := hp.1 rfl
                      obtain ⟨g9, h9, _, hc9⟩ : ∃ g, xv 9 = .slice (some ⟨g, 0, none⟩) 1 1 ∧ g < wq.heap.size ∧ wq.cell? ⟨g, 0, none⟩ = some (.string x) := hp.2.1 rfl
                      unfold PStepR
                      rw [if_pos (by rfl)]
                      intro K hK
                      simp only [fillFrom, Act.put, List.setIfInBounds_toArray, List.set_cons_zero, List.set_cons_succ, Nat.reduceAdd, h9] at hK ⊢
                      refine wp_append_srcs wq _ _ 40 40 (by rfl) W.heap.size 9 i0 _ 16 Try.underlying40 hi0 hz0 hz1 hz2 rfl (xv 4) (by rfl) n (((LKI k i).take n).map Value.string) h4 _ (by rfl) 1 [.string x] (src_one g9 hc9) (by unfold maxLen; omega) (by omega) hR.1.size ?_
                      intro v' w' hown' hcase
                      rcases hcase with hg | ⟨g4, cap4, e1, e2, hg⟩
                      · exact hK _ _ (Rn.grow hg hR.1.size) hown'
                      · rw [e1] at h4
                        subst e2
                        exact hK _ _ ⟨Below.grown (Below.refl _ _) hg hR.1.size (fun q hq => by injection hq with hq; rw [← hq]; exact (own_at.1 h4).2.1), fun _ _ => Ph.room hg h4 hown'⟩ hown'
                    · have h10 : wq.ownsRow W.heap.size 9 1 (xv 10) (n + 1) ((((LKI k i).take n).map Value.string) ++ [.string x]) := hp.1 rfl
                      unfold PStepR
                      rw [if_pos (by rfl)]
                      intro K hK
                      simp only [fillFrom, Act.put, List.setIfInBounds_toArray, List.set_cons_zero, List.set_cons_succ, Nat.reduceAdd] at hK ⊢
                      go_simp
                      exact hK _ _ (Rn.refl _) h10
                  · intro xv w9 hR hP
                    have e11 : w9.ownsRow W.heap.size 9 1 (xv 11) (n + 1) ((((LKI k i).take n).map Value.string) ++ [.string x]) := hP.2.2.2.2.2.2.2.2.2.2.2.1
                    obtain ⟨V, hV⟩ : ∃ V, V = xv 11 := ⟨_, rfl⟩
                    rw [← hV] at e11
                    simp only [fillFrom, Act.put, List.setIfInBounds_toArray, List.set_cons_zero, List.set_cons_succ, Nat.reduceAdd, ← hV]
                    have E11 := Lib.hid e11
                    have HR := Lib.hid hR.1
                    have z9 := hR.1.size
                    have SR13 := Lib.hid (src_of ((LKI k i).drop n) g n 0 (c - n) CLW.out.1 hR.1 (by rw [List.length_drop, ← HN.out]; try omega) (fun q y hy => CLW.out.2 (n + q) y (by rw [← hy, List.getElem?_drop])))
                    clear hP hV e11 hR
                    go_wp2_with (at_builtin; refine wpList_append_srcs _ (by rfl) _ _ 40 40 (by rfl) W.heap.size 9 i0 _ 16 Try.underlying40 hi0 hz0 hz1 hz2 rfl _ (by rfl) (n + 1) _ E11.out _ (by rfl) _ _ SR13.out (by unfold maxLen; omega) (by omega) z9 ?_; intro v8 w8 hown8 hcase8; have H8 := Lib.hid (And.intro hown8 hcase8); clear hown8 hcase8)
                    obtain ⟨hown8, hcase8⟩ := H8.out
                    have OW8 := Lib.hid (show w8.ownsRow w.heap.size 9 1 v8 (n + 1) ((LKI k (i + 1)).map Value.string) from by
                      rw [LKI_next k i x HX.out]
                      unfold insN
                      rw [HJ.out, List.map_append, List.map_append]
                      have := ownsRow_base (C := w.heap.size) hown8 (by omega)
                      rw [show n + 1 = n + 1 + 0 from by omega]
                      exact this)
                    have G8 := Lib.hid (show Grow w2 w8 from by
                      have h9 : Grow w2 w9 := (HB.out.trans GW.out).trans HR.out
                      rcases hcase8 with hg | ⟨g6, cap6, e1, _, hg⟩
                      · exact h9.trans hg
                      · refine (HB.out.trans GW.out).trans' HR.out hg (fun q hq => ?_)
                        injection hq with hq
                        have := E11.out
                        rw [e1] at this
                        rw [← hq]
                        have := (own_at.1 this).2.1
                        omega)
                    have HN8 := Lib.hid (show n + 1 = (LKI k (i + 1)).length from by rw [LKI_next k i x HX.out, insN_len, ← HN.out])
                    clear H8 hown8 hcase8
                    go_roundw
                    case rel => exact ⟨i + 1, n + 1, _, by omega, by go_num, rfl, HN8, OW8, G8.out⟩
                    case measure => simp [intOf]; omega
                · have hcn : n = c := by
                    obtain ⟨_, _, _, _, h4, _⟩ := own_at.1 OW.out
                    omega
                  subst hcn
                  go_wp2
                  go_quiet (fail)
                  obtain ⟨W, hW⟩ : ∃ W, W = wr.drewN nq := ⟨_, rfl⟩
                  have GW := Lib.hid (show Grow wI W from by rw [hW]; exact below_drewN HB5.out _)
                  rw [← hW]
                  clear hW
                  have zW := GW.out.size
                  have xW : W.cell? ⟨gr, i, none⟩ = some (.string x) := (Below.cell GW.out (p := ⟨gr, i, none⟩) hgrw).trans hxw
                  have grW : gr < W.heap.size := by omega
                  have CLW := Lib.hid (show g < W.heap.size ∧ ∀ q y, (LKI k i)[q]? = some y → W.cell? ⟨g, q, none⟩ = some (.string y) from ⟨by omega, fun q y hy => by
                    obtain ⟨g', cap', hl', hc'⟩ := SRC.out q y hy
                    injection hl' with hl1 _ hl2
                    injection hl1 with hl1
                    injection hl1 with hl1 _ _
                    subst hl1
                    exact (Below.cell GW.out (p := ⟨_, q, none⟩) (World.block_lt_of_cell? wI ⟨_, q, none⟩ hc')).trans hc'⟩)
                  have hjc : (n : Int) ≤ (n : Int) := by
                    obtain ⟨_, _, _, _, h4, _⟩ := own_at.1 OW.out
                    omega
                  have hnc : (n : Int) ≤ (n : Int) := by
                    obtain ⟨_, _, _, _, h4, _⟩ := own_at.1 OW.out
                    omega
                  have hjn : (n : Int) ≤ (n : Int) := by omega
                  have LJ := Lib.hid (show (((LKI k i).take n).map Value.string).length = n from by rw [List.length_map, List.length_take, ← HN.out]; omega)
                  go_wp2
                  refine wp_region_R' (Rn W.heap.size (.slice (some ⟨g, 0, none⟩) n n) (.slice (some ⟨gr, 0, none⟩) L L) (.slice (some ⟨g, 0, none⟩) n n) n i gr x (((LKI k i).take n).map Value.string)) Rn.refl Rn.trans (Rn.grow ((Grow.refl _).drew) (Nat.le_refl _)) (Ph W.heap.size (.slice (some ⟨g, 0, none⟩) n n) (.slice (some ⟨gr, 0, none⟩) L L) (.slice (some ⟨g, 0, none⟩) n n) n i gr x (((LKI k i).take n).map Value.string)) (by kernel_rfl) (by kernel_rfl) (fun _ _ _ _ h hv => h.2 _ _ hv) ?_ ?_
                  · intro xv wq hR
                    refine ⟨fun hp => ?_, fun hp => ?_, fun hp => ?_, fun hp => ?_, fun hp => ?_, fun hp => ?_, fun hp => ?_, fun hp => ?_, fun hp => ?_, fun hp => ?_, fun hp => ?_, fun hp => ?_, trivial⟩
                    · unfold PStepR
                      rw [if_pos (by rfl)]
                      intro K hK
                      simp only [fillFrom, Act.put, List.setIfInBounds_toArray, List.set_cons_zero, List.set_cons_succ, Nat.reduceAdd] at hK ⊢
                      go_simp
                      exact hK _ _ (Rn.grow ((Grow.refl _).alloc _) hR.1.size) ⟨⟨_, rfl⟩, ownsRow_empty0 wq W.heap.size 9 1 hR.1.size⟩
                    · unfold PStepR
                      rw [if_pos (by rfl)]
                      intro K hK
                      simp only [fillFrom, Act.put, List.setIfInBounds_toArray, List.set_cons_zero, List.set_cons_succ, Nat.reduceAdd] at hK ⊢
                      go_simp
                      exact hK _ _ (Rn.refl _) rfl
                    · unfold PStepR
                      rw [if_pos (by rfl)]
                      intro K hK
                      simp only [fillFrom, Act.put, List.setIfInBounds_toArray, List.set_cons_zero, List.set_cons_succ, Nat.reduceAdd] at hK ⊢
                      go_simp
                      exact hK _ _ (Rn.refl _) rfl
                    · have h1 : xv 1 = .slice (some ⟨g, 0, none⟩) n n := hp.1 rfl
                      have h2 : xv 2 = .int .i64 (n : Nat) := hp.2.1 rfl
                      unfold PStepR
                      rw [if_pos (by rfl)]
                      intro K hK
                      simp only [fillFrom, Act.put, List.setIfInBounds_toArray, List.set_cons_zero, List.set_cons_succ, Nat.reduceAdd, h1, h2] at hK ⊢
                      go_simp
                      exact hK _ _ (Rn.refl _) rfl
                    · obtain ⟨⟨g0, h0⟩, own0⟩ : (∃ g, xv 0 = .slice (some ⟨g, 0, none⟩) 0 0) ∧ wq.ownsRow W.heap.size 9 1 (xv 0) 0 [] := hp.1 rfl
                      have h3 : xv 3 = .slice (some ⟨g, 0, none⟩) n n := hp.2.1 rfl
                      rw [h0] at own0
                      unfold PStepR
                      rw [if_pos (by rfl)]
                      intro K hK
                      simp only [fillFrom, Act.put, List.setIfInBounds_toArray, List.set_cons_zero, List.set_cons_succ, Nat.reduceAdd, h0, h3] at hK ⊢
                      refine wp_append_fresh wq _ _ 40 40 (by rfl) W.heap.size 9 i0 _ 1 16 Try.underlying40 hi0 hz0 hz1 hz2 rfl _ (by rfl) (.inr ⟨g0, rfl⟩) own0 _ (by rfl) n (((LKI k i).take n).map Value.string) (src_of ((LKI k i).take n) g 0 n n CLW.out.1 hR.1 (by rw [List.length_take, ← HN.out]; omega) (fun q y hy => by rw [Nat.zero_add]; exact CLW.out.2 q y (take_at hy))) (by unfold maxLen; omega) (by omega) hR.1.size ?_
                      intro v' w' hown' hgrow' _ _
                      exact hK _ _ (Rn.grow hgrow' hR.1.size) hown'
                    · unfold PStepR
                      rw [if_pos (by rfl)]
                      intro K hK
                      simp only [fillFrom, Act.put, List.setIfInBounds_toArray, List.set_cons_zero, List.set_cons_succ, Nat.reduceAdd] at hK ⊢
                      go_simp
                      exact hK _ _ (Rn.refl _) rfl
                    · unfold PStepR
                      rw [if_pos (by rfl)]
                      intro K hK
                      simp only [fillFrom, Act.put, List.setIfInBounds_toArray, List.set_cons_zero, List.set_cons_succ, Nat.reduceAdd] at hK ⊢
                      go_simp
                      exact hK _ _ (Rn.refl _) rfl
                    · have h5 : xv 5 = .slice (some ⟨gr, 0, none⟩) L L := hp.1 rfl
                      have h6 : xv 6 = .int .i64 i := hp.2.1 rfl
                      unfold PStepR
                      rw [if_pos (by rfl)]
                      intro K hK
                      simp only [fillFrom, Act.put, List.setIfInBounds_toArray, List.set_cons_zero, List.set_cons_succ, Nat.reduceAdd, h5, h6] at hK ⊢
                      go_simp
                      exact hK _ _ (Rn.refl _) rfl
                    · have h7 : xv 7 = .pointer (some ⟨gr, i, none⟩) := hp.1 rfl
                      have xq : wq.cell? ⟨gr, i, none⟩ = some (.string x) := (hR.1.cell (p := ⟨gr, i, none⟩) grW).trans xW
                      unfold PStepR
                      rw [if_pos (by rfl)]
                      intro K hK
                      simp only [fillFrom, Act.put, List.setIfInBounds_toArray, List.set_cons_zero, List.set_cons_succ, Nat.reduceAdd, h7] at hK ⊢
                      go_simp
                      exact hK _ _ (Rn.refl _) rfl
                    · have h8 : xv 8 = .string x := hp.1 rfl
                      unfold PStepR
                      rw [if_pos (by rfl)]
                      intro K hK
                      simp only [fillFrom, Act.put, List.setIfInBounds_toArray, List.set_cons_zero, List.set_cons_succ, Nat.reduceAdd, h8] at hK ⊢
                      go_simp
                      exact hK _ _ (Rn.grow ((Grow.refl _).alloc _) hR.1.size) ⟨_, rfl, by simp, by rw [cell_blk (heap_alloc_new wq (.cells #[.string x] 9)) 0]; rfl⟩
                    · have h4 : wq.ownsRow W.heap.size 9 1 (xv 4) n (((LKI k i).take n).map Value.string) := hp.1 rfl
                      obtain ⟨g9, h9, _, hc9⟩ : ∃ g, xv 9 = .slice (some ⟨g, 0, none⟩) 1 1 ∧ g < wq.heap.size ∧ wq.cell? ⟨g, 0, none⟩ = some (.string x) := hp.2.1 rfl
                      unfold PStepR
                      rw [if_pos (by rfl)]
                      intro K hK
                      simp only [fillFrom, Act.put, List.setIfInBounds_toArray, List.set_cons_zero, List.set_cons_succ, Nat.reduceAdd, h9] at hK ⊢
                      refine wp_append_srcs wq _ _ 40 40 (by rfl) W.heap.size 9 i0 _ 16 Try.underlying40 hi0 hz0 hz1 hz2 rfl (xv 4) (by rfl) n (((LKI k i).take n).map Value.string) h4 _ (by rfl) 1 [.string x] (src_one g9 hc9) (by unfold maxLen; omega) (by omega) hR.1.size ?_
                      intro v' w' hown' hcase
                      rcases hcase with hg | ⟨g4, cap4, e1, e2, hg⟩
                      · exact hK _ _ (Rn.grow hg hR.1.size) hown'
                      · rw [e1] at h4
                        subst e2
                        exact hK _ _ ⟨Below.grown (Below.refl _ _) hg hR.1.size (fun q hq => by injection hq with hq; rw [← hq]; exact (own_at.1 h4).2.1), fun _ _ => Ph.room hg h4 hown'⟩ hown'
                    · have h10 : wq.ownsRow W.heap.size 9 1 (xv 10) (n + 1) ((((LKI k i).take n).map Value.string) ++ [.string x]) := hp.1 rfl
                      unfold PStepR
                      rw [if_pos (by rfl)]
                      intro K hK
                      simp only [fillFrom, Act.put, List.setIfInBounds_toArray, List.set_cons_zero, List.set_cons_succ, Nat.reduceAdd] at hK ⊢
                      go_simp
                      exact hK _ _ (Rn.refl _) h10
                  · intro xv w9 hR hP
                    have e11 : w9.ownsRow W.heap.size 9 1 (xv 11) (n + 1) ((((LKI k i).take n).map Value.string) ++ [.string x]) := hP.2.2.2.2.2.2.2.2.2.2.2.1
                    obtain ⟨V, hV⟩ : ∃ V, V = xv 11 := ⟨_, rfl⟩
                    rw [← hV] at e11
                    simp only [fillFrom, Act.put, List.setIfInBounds_toArray, List.set_cons_zero, List.set_cons_succ, Nat.reduceAdd, ← hV]
                    have E11 := Lib.hid e11
                    have HR := Lib.hid hR.1
                    have z9 := hR.1.size
                    have SR13 := Lib.hid (src_of ((LKI k i).drop n) g 0 0 0 CLW.out.1 hR.1 (by rw [List.length_drop, ← HN.out]; omega) (fun q y hy => by rw [List.getElem?_eq_none (by rw [List.length_drop, ← HN.out]; omega)] at hy; cases hy))
                    clear hP hV e11 hR
                    go_wp2_with (at_builtin; refine wpList_append_srcs _ (by rfl) _ _ 40 40 (by rfl) W.heap.size 9 i0 _ 16 Try.underlying40 hi0 hz0 hz1 hz2 rfl _ (by rfl) (n + 1) _ E11.out _ (by rfl) _ _ SR13.out (by unfold maxLen; omega) (by omega) z9 ?_; intro v8 w8 hown8 hcase8; have H8 := Lib.hid (And.intro hown8 hcase8); clear hown8 hcase8)
                    obtain ⟨hown8, hcase8⟩ := H8.out
                    have OW8 := Lib.hid (show w8.ownsRow w.heap.size 9 1 v8 (n + 1) ((LKI k (i + 1)).map Value.string) from by
                      rw [LKI_next k i x HX.out]
                      unfold insN
                      rw [HJ.out, List.map_append, List.map_append]
                      have := ownsRow_base (C := w.heap.size) hown8 (by omega)
                      rw [show n + 1 = n + 1 + 0 from by omega]
                      exact this)
                    have G8 := Lib.hid (show Grow w2 w8 from by
                      have h9 : Grow w2 w9 := (HB.out.trans GW.out).trans HR.out
                      rcases hcase8 with hg | ⟨g6, cap6, e1, _, hg⟩
                      · exact h9.trans hg
                      · refine (HB.out.trans GW.out).trans' HR.out hg (fun q hq => ?_)
                        injection hq with hq
                        have := E11.out
                        rw [e1] at this
                        rw [← hq]
                        have := (own_at.1 this).2.1
                        omega)
                    have HN8 := Lib.hid (show n + 1 = (LKI k (i + 1)).length from by rw [LKI_next k i x HX.out, insN_len, ← HN.out])
                    clear H8 hown8 hcase8
                    go_roundw
                    case rel => exact ⟨i + 1, n + 1, _, by omega, by go_num, rfl, HN8, OW8, G8.out⟩
                    case measure => simp [intOf]; omega
        · have k2 : ¬ (i : Int) < (L : Int) := by omega
          obtain rfl : i = L := by omega
          have HNE := Lib.hid (show n = (LK (k + 1)).length from by rw [HN.out, HL.out, LKI_end])
          have OWE := Lib.hid (show wI.ownsRow w.heap.size 9 1 l n ((LK (k + 1)).map Value.string) from by have := OW.out; rw [HL.out, LKI_end] at this; exact this)
          have GE := Lib.hid (GW1.out.trans HB.out)
          go_wp2
          go_roundw
          case rel => exact ⟨k + 1, n, _, by omega, by go_num, rfl, HNE, OWE, GE.out⟩
          case measure => simp [intOf]; omega
    · have k1 : ¬ (k : Int) < 18 := by omega
      obtain rfl : k = 18 := by omega
      have h78 : n = 78 := by rw [HN.out, LK_all]; rfl
      subst h78
      have own := OW.out
      rw [LK_all] at own
      obtain ⟨g, c, rfl, _, hg⟩ := own.form (by omega)
      have NA := Lib.hid (show NamesAt g namesS wr from ⟨hg, fun q y hy => by
        have hq : q < 78 := by
          rw [← namesS_len]
          rcases Nat.lt_or_ge q namesS.length with h1 | h1
          · exact h1
          · rw [List.getElem?_eq_none h1] at hy; cases hy
        rw [World.ownsRow.cellAt own q (by omega), List.getElem?_map, hy]; rfl⟩)
      clear own OW
      go_wp2
      go_ret
      exact ⟨g, ⟨c, rfl⟩, NA.out, HB.out⟩
end Go.Proofs.Ytfldpaceebemhaa
