/-
  The walk of the document's List.
-/
import Derived.Test.YticpldjcmhpjoaaZ1

namespace Go.Proofs.Yticpldjcmhpjoaa
open Go.RowKit
set_option linter.unusedVariables false
set_option linter.unusedSimpArgs false

theorem ownsRow_base {w : World} {B C e size n : Nat} {v : Value} {xs : List Value} (h : w.ownsRow B e size v n xs) (hc : C ≤ B) : w.ownsRow C e size v n xs := by
  refine ⟨h.1, ?_⟩
  rcases h.2 with h2 | ⟨g, cap, cur, h3, h4, h5⟩
  · exact .inl h2
  · exact .inr ⟨g, cap, cur, h3, by omega, h5⟩
theorem strs_src {W wq : World} (M : List ByteArray) (g o m c : Nat) (hg : g < W.heap.size) (hb : Below W.heap.size W wq) (hl : M.length = m) (h : ∀ q y, M[q]? = some y → W.cell? ⟨g, o + q, none⟩ = some (.string y)) :
    Src Try.prog 1 52 (.slice (some ⟨g, o, none⟩) m c) m (M.map Value.string) wq := by
  refine Src.ofSlice _ Try.underlying52 ⟨g, o, none⟩ m c _ (by simp [hl]) (fun q u hu => ?_) (fun u hu => ?_)
  · rw [List.getElem?_map, Option.map_eq_some_iff] at hu
    obtain ⟨y, hy, rfl⟩ := hu
    rw [add_plain]
    exact (Below.cell hb (p := ⟨g, o + q, none⟩) hg).trans (h q y hy)
  · obtain ⟨y, _, rfl⟩ := List.mem_map.mp hu
    rfl
theorem src_one {wq : World} {x : ByteArray} (g : Nat) (h : wq.cell? ⟨g, 0, none⟩ = some (.string x)) : Src Try.prog 1 52 (.slice (some ⟨g, 0, none⟩) 1 1) 1 [.string x] wq := by
  refine Src.ofSlice _ Try.underlying52 ⟨g, 0, none⟩ 1 1 _ rfl (fun q u hu => ?_) (fun u hu => ?_)
  · cases q with
    | zero => simp at hu; rw [add_plain, ← hu]; exact h
    | succ q => simp at hu
  · simp at hu; rw [hu]; rfl
theorem take_at {α : Type} {l : List α} {j q : Nat} {y : α} (h : (l.take j)[q]? = some y) : l[q]? = some y := by
  rw [List.getElem?_take] at h
  split at h
  · exact h
  · cases h
def namesTo (fs : List File) (i : Nat) : List ByteArray := insAll (fs.take i)
theorem namesTo_len (fs : List File) (i : Nat) (h : i ≤ fs.length) : (namesTo fs i).length = i := by
  unfold namesTo
  rw [insAll_len, List.length_take]
  omega
theorem namesTo_next (fs : List File) (i : Nat) (p : File) (h : fs[i]? = some p) : namesTo fs (i + 1) = insN (namesTo fs i) p.1 := insAll_next fs i p h
theorem below_grown {a b c : World} {B : Nat} {q : Option Nat} (h : Below B a b) (hg : b.grownBy c q) (hB : B ≤ b.heap.size) (hq : ∀ g, q = some g → B ≤ g) : Below B a c :=
  ⟨hg.os.trans h.os, hg.tape.trans h.tape, hg.output.trans h.output, Nat.le_trans h.size hg.size, fun k hk => (hg.block k (by omega) (fun e => by have := hq k e.symm; omega)).trans (h.block k hk)⟩
set_option maxRecDepth 100000 in
set_option maxHeartbeats 4000000 in
theorem xlist_any {P : Nat → Prop} (xb : Nat) (D : Doc) (w : World) (hX : XsAt P w xb D) (hl : D.now.length ≤ 100000) : Calls Try.prog 41 #[.pointer (some ⟨xb, 0, none⟩)] w (ListP w.heap.size w (sortN D.now)) := by
  obtain ⟨i0, hi0, hz0, hz1, hz2⟩ := info_parts (show (Try.prog.info? 9).map (fun i => (i.zero, i.size, i.bytes)) = some (some (.string ⟨#[]⟩), 1, 16) by kernel_rfl)
  obtain ⟨ra, rc, al, cl, hF, hrc, hcell⟩ := hX.cells
  obtain ⟨fs, hfs⟩ : ∃ fs, fs = D.now := ⟨_, rfl⟩
  rw [← hfs] at hF hrc hcell hl ⊢
  have HFN := Lib.hid (show ∀ i p, fs[i]? = some p → ∃ g, ra = some ⟨g, 0, none⟩ ∧ w.cell? ⟨g, i * 2, none⟩ = some (.string p.1) from fun i p h => by
    obtain ⟨g, bv, h1, _, h2, _⟩ := hF.at i p h
    exact ⟨g, h1, h2⟩)
  obtain ⟨nn, hnn⟩ : ∃ nn, nn = fs.length := ⟨_, rfl⟩
  rw [← hnn] at hcell hl hrc
  have HC := Lib.hid (show ∀ W, Grow w W → W.cell? ⟨xb, 1, none⟩ = some (.slice ra nn rc) from fun W hW => (hcell W hW).2.1)
  have HNN := Lib.hid hnn
  have S0 := Lib.hid (show w.ownsRow w.heap.size 9 1 (.slice none 0 0) 0 ((namesTo fs 0).map Value.string) from ⟨rfl, .inl ⟨rfl, rfl⟩⟩)
  have G0 := Lib.hid (Grow.refl w)
  clear hX hF hcell hfs hnn
  go_enter Try.func41, Try.ntmps41
  go_wp2
  go_loopw [3, 4] (fun lv t wr => ∃ (i : Nat) (l : Value), i ≤ nn ∧ t = .int .i64 (i : Int) ∧ l = lv ∧ Hid (wr.ownsRow w.heap.size 9 1 l i ((namesTo fs i).map Value.string)) ∧ Hid (Grow w wr)) (fun _ t _ => nn - (intOf t).toNat)
  case atStart => exact ⟨0, _, by omega, rfl, rfl, S0, G0⟩
  case round =>
    clear S0 G0
    obtain ⟨wI, rfl⟩ : ∃ wI, wI = wr := ⟨_, rfl⟩
    obtain ⟨i, l, hi, rfl, rfl, OW, HB⟩ := hrel
    have c1 := HC.out _ HB.out
    have hxl : xb < wI.heap.size := lt_of_cell c1
    have hsz := Grow.size HB.out
    by_cases hlt : i < nn
    · have k1 : (i : Int) < (nn : Int) := by omega
      have k2 : (0 : Int) ≤ (i : Int) := by omega
      obtain ⟨p, hp⟩ : ∃ p, fs[i]? = some p := ⟨_, List.getElem?_eq_getElem (by rw [← HNN.out]; exact hlt)⟩
      obtain ⟨gr, hra, hx0⟩ := HFN.out i p hp
      subst hra
      obtain ⟨x, hx⟩ : ∃ x, x = p.1 := ⟨_, rfl⟩
      rw [← hx] at hx0
      have hgr0 : gr < w.heap.size := lt_of_cell hx0
      have hxw : wI.cell? ⟨gr, i * 2, none⟩ = some (.string x) := (Below.cell HB.out (p := ⟨gr, i * 2, none⟩) hgr0).trans hx0
      have hgrw : gr < wI.heap.size := by omega
      have HNX := Lib.hid (show namesTo fs (i + 1) = insN (namesTo fs i) x from by rw [hx]; exact namesTo_next fs i p hp)
      have HLN := Lib.hid (show (namesTo fs i).length = i from namesTo_len fs i (by rw [← HNN.out]; omega))
      clear hp hx hx0
      have SRC : Hid (∀ j y, (namesTo fs i)[j]? = some y → ∃ g cap, l = .slice (some ⟨g, 0, none⟩) i cap ∧ wI.cell? ⟨g, j, none⟩ = some (.string y)) := Lib.hid (fun j y hy => by
        have hj : j < i := by
          rw [← HLN.out]
          exact (List.getElem?_eq_some_iff.1 hy).1
        rcases own_form OW.out with ⟨_, h0⟩ | ⟨g, cap, h0⟩
        · omega
        · refine ⟨g, cap, h0, ?_⟩
          have own := OW.out
          rw [h0] at own
          have := World.ownsRow.cells (g := g) own rfl j (.string y) (by rw [List.getElem?_map, hy]; rfl)
          rw [add_plain, Nat.zero_add] at this
          exact this)
      obtain ⟨a, c, rfl⟩ : ∃ a c, l = .slice a i c := by
        rcases own_form OW.out with ⟨h1, h0⟩ | ⟨g, cap, h0⟩
        · exact ⟨none, 0, by rw [h1, h0]⟩
        · exact ⟨_, _, h0⟩
      go_wp2
      go_loopw [5] (fun t w5 => ∃ (j : Nat), j ≤ i ∧ t = .int .i64 (j : Int) ∧ Hid (∀ q y, q < j → (namesTo fs i)[q]? = some y → ltB y x = true) ∧ Hid (Grow wI w5)) (fun t _ => i - (intOf t).toNat)
      case atStart => exact ⟨0, by omega, rfl, Lib.hid (fun q y hq => absurd hq (by omega)), Lib.hid (Grow.refl _)⟩
      case round =>
        obtain ⟨j, hj, rfl, H, HB5⟩ := hrel
        have hxw5 := (Below.cell HB5.out (p := ⟨gr, i * 2, none⟩) hgrw).trans hxw
        have c15 := (Below.cell HB5.out (p := ⟨xb, 1, none⟩) hxl).trans c1
        have j0 : (0 : Int) ≤ (j : Int) := by omega
        have hsz5 := Grow.size HB5.out
        by_cases hj2 : j < i
        · have k4 : (j : Int) < (i : Int) := by omega
          have hd : decide (j < i) = true := by simp; omega
          obtain ⟨y, hy⟩ : ∃ y, (namesTo fs i)[j]? = some y := ⟨_, List.getElem?_eq_getElem (by rw [HLN.out]; exact hj2)⟩
          obtain ⟨g, cap, hl1, hyw⟩ := SRC.out j y hy
          injection hl1 with hl1 _ hl2
          subst hl1
          have hglt : g < wI.heap.size := lt_of_cell hyw
          replace hyw := (Below.cell HB5.out (p := ⟨g, j, none⟩) hglt).trans hyw
          have HY := Lib.hid hy
          clear hy hl2
          cases hlt3 : ltB y x with
          | true =>
            have HLT := Lib.hid hlt3
            have hlb : Op.bytesLess y.toList x.toList = true := hlt3
            clear hlt3
            go_wp2
            go_quiet (fail)
            go_wp2
            go_roundw
            case rel => exact ⟨j + 1, by omega, by go_num, Lib.hid (fun q z hq hz => by
              rcases Nat.lt_or_ge q j with h | h
              · exact H.out q z h hz
              · obtain rfl : q = j := by omega
                rw [HY.out] at hz
                injection hz with hz
                rw [← hz]; exact HLT.out), Lib.hid (below_drewN HB5.out _)⟩
            case measure => simp [intOf]; omega
          | false =>
            have HLT := Lib.hid hlt3
            have hlb : Op.bytesLess y.toList x.toList = false := hlt3
            clear hlt3
            have HJ := Lib.hid (insAt_eq (namesTo fs i) x j (fun q z hq hz => H.out q z hq hz) (fun z hz => by rw [HY.out] at hz; injection hz with hz; rw [← hz]; exact HLT.out) (by rw [HLN.out]; omega))
            go_wp2
            go_quiet (fail)
            obtain ⟨W, hW⟩ : ∃ W, W = wr.drewN nq := ⟨_, rfl⟩
            have GW := Lib.hid (show Grow wI W from by rw [hW]; exact below_drewN HB5.out _)
            rw [← hW]
            clear hW
            have zW := Grow.size GW.out
            have xW : W.cell? ⟨gr, i * 2, none⟩ = some (.string x) := (Below.cell GW.out (p := ⟨gr, i * 2, none⟩) hgrw).trans hxw
            have cW : W.cell? ⟨xb, 1, none⟩ = some (.slice (some ⟨gr, 0, none⟩) nn rc) := (Below.cell GW.out (p := ⟨xb, 1, none⟩) hxl).trans c1
            have grW : gr < W.heap.size := by omega
            have xbW : xb < W.heap.size := by omega
            have CLW := Lib.hid (show g < W.heap.size ∧ ∀ q y, (namesTo fs i)[q]? = some y → W.cell? ⟨g, q, none⟩ = some (.string y) from ⟨by omega, fun q y hy => by
              obtain ⟨g', cap', hl', hc'⟩ := SRC.out q y hy
              injection hl' with hl1 _ hl2
              injection hl1 with hl1
              injection hl1 with hl1 _ _
              subst hl1
              exact (Below.cell GW.out (p := ⟨_, q, none⟩) (World.block_lt_of_cell? wI ⟨_, q, none⟩ hc')).trans hc'⟩)
            have hjc : ((j : Nat) : Int) ≤ ((c : Nat) : Int) := by
              obtain ⟨_, _, _, _, h4, _⟩ := own_at.1 OW.out
              omega
            have hnc : ((i : Nat) : Int) ≤ ((c : Nat) : Int) := by
              obtain ⟨_, _, _, _, h4, _⟩ := own_at.1 OW.out
              omega
            have hjn : ((j : Nat) : Int) ≤ ((i : Nat) : Int) := by omega
            have LJ := Lib.hid (show (((namesTo fs i).take j).map Value.string).length = j from by rw [List.length_map, List.length_take, HLN.out]; omega)
            go_wp2
            refine wp_region_R' (Rn W.heap.size (.slice (some ⟨g, 0, none⟩) i c) (.slice (some ⟨g, 0, none⟩) j c) (.slice (some ⟨gr, 0, none⟩) nn rc) j i gr xb x (((namesTo fs i).take j).map Value.string)) Rn.refl Rn.trans (Rn.grow ((Grow.refl _).drew) (Nat.le_refl _)) (Ph W.heap.size (.slice (some ⟨g, 0, none⟩) i c) (.slice (some ⟨g, 0, none⟩) j c) (.slice (some ⟨gr, 0, none⟩) nn rc) j i gr xb x (((namesTo fs i).take j).map Value.string)) (by kernel_rfl) (by kernel_rfl) (fun _ _ _ _ h hv => h.2 _ _ hv) ?_ ?_
            · intro xv wq hR
              refine ⟨fun hp => ?_, fun hp => ?_, fun hp => ?_, fun hp => ?_, fun hp => ?_, fun hp => ?_, fun hp => ?_, fun hp => ?_, fun hp => ?_, fun hp => ?_, fun hp => ?_, fun hp => ?_, fun hp => ?_, fun hp => ?_, fun hp => ?_, fun hp => ?_, trivial⟩
              · unfold PStepR
                rw [if_pos (by rfl)]
                intro K hK
                simp only [fillFrom, Act.put, List.setIfInBounds_toArray, List.set_cons_zero, List.set_cons_succ, Nat.reduceAdd] at hK ⊢
                go_simp
                exact hK _ _ (Rn.grow ((Grow.refl _).alloc _) hR.1.size) ⟨⟨_, rfl⟩, ownsRow_empty0 wq W.heap.size 9 1 hR.1.size⟩
              · unfold PStepR
                rw [if_pos (by rfl)]
                intro K hK
                simp only [fillFrom, Act.put, List.setIfInBounds_toArray, List.set_cons_zero, List.set_cons_succ, Nat.reduceAdd] at hK ⊢
                go_simp
                exact hK _ _ (Rn.refl _) rfl
              · unfold PStepR
                rw [if_pos (by rfl)]
                intro K hK
                simp only [fillFrom, Act.put, List.setIfInBounds_toArray, List.set_cons_zero, List.set_cons_succ, Nat.reduceAdd] at hK ⊢
                go_simp
                exact hK _ _ (Rn.refl _) rfl
              · have h1 : xv 1 = (.slice (some ⟨g, 0, none⟩) i c) := hp.1 rfl
                have h2 : xv 2 = .int .i64 ((j : Nat) : Int) := hp.2.1 rfl
                unfold PStepR
                rw [if_pos (by rfl)]
                intro K hK
                simp only [fillFrom, Act.put, List.setIfInBounds_toArray, List.set_cons_zero, List.set_cons_succ, Nat.reduceAdd, h1, h2] at hK ⊢
                go_simp
                exact hK _ _ (Rn.refl _) rfl
              · obtain ⟨⟨g0, h0⟩, own0⟩ : (∃ g, xv 0 = .slice (some ⟨g, 0, none⟩) 0 0) ∧ wq.ownsRow W.heap.size 9 1 (xv 0) 0 [] := hp.1 rfl
                have h3 : xv 3 = (.slice (some ⟨g, 0, none⟩) j c) := hp.2.1 rfl
                rw [h0] at own0
                unfold PStepR
                rw [if_pos (by rfl)]
                intro K hK
                simp only [fillFrom, Act.put, List.setIfInBounds_toArray, List.set_cons_zero, List.set_cons_succ, Nat.reduceAdd, h0, h3] at hK ⊢
                refine wp_append_fresh wq _ _ 52 52 (by rfl) W.heap.size 9 i0 _ 1 16 Try.underlying52 hi0 hz0 hz1 hz2 rfl _ (by rfl) (.inr ⟨g0, rfl⟩) own0 _ (by rfl) j (((namesTo fs i).take j).map Value.string) (strs_src ((namesTo fs i).take j) g 0 j c CLW.out.1 hR.1 (by rw [List.length_take, HLN.out]; omega) (fun q y hy => by rw [Nat.zero_add]; exact CLW.out.2 q y (take_at hy))) (by unfold maxLen; omega) (by omega) hR.1.size ?_
                intro v' w' hown' hgrow' _ _
                exact hK _ _ (Rn.grow hgrow' hR.1.size) hown'
              · unfold PStepR
                rw [if_pos (by rfl)]
                intro K hK
                simp only [fillFrom, Act.put, List.setIfInBounds_toArray, List.set_cons_zero, List.set_cons_succ, Nat.reduceAdd] at hK ⊢
                go_simp
                exact hK _ _ (Rn.refl _) rfl
              · have h5 : xv 5 = .pointer (some ⟨xb, 0, none⟩) := hp.1 rfl
                unfold PStepR
                rw [if_pos (by rfl)]
                intro K hK
                simp only [fillFrom, Act.put, List.setIfInBounds_toArray, List.set_cons_zero, List.set_cons_succ, Nat.reduceAdd, h5] at hK ⊢
                go_simp
                exact hK _ _ (Rn.refl _) rfl
              · have h6 : xv 6 = .pointer (some ⟨xb, 0, none⟩) := hp.1 rfl
                unfold PStepR
                rw [if_pos (by rfl)]
                intro K hK
                simp only [fillFrom, Act.put, List.setIfInBounds_toArray, List.set_cons_zero, List.set_cons_succ, Nat.reduceAdd, h6] at hK ⊢
                go_simp
                exact hK _ _ (Rn.refl _) rfl
              · have h7 : xv 7 = .pointer (some ⟨xb, 1, none⟩) := hp.1 rfl
                have cq : wq.cell? ⟨xb, 1, none⟩ = some (.slice (some ⟨gr, 0, none⟩) nn rc) := (Below.cell hR.1 (p := ⟨xb, 1, none⟩) xbW).trans cW
                unfold PStepR
                rw [if_pos (by rfl)]
                intro K hK
                simp only [fillFrom, Act.put, List.setIfInBounds_toArray, List.set_cons_zero, List.set_cons_succ, Nat.reduceAdd, h7] at hK ⊢
                go_simp
                exact hK _ _ (Rn.refl _) rfl
              · unfold PStepR
                rw [if_pos (by rfl)]
                intro K hK
                simp only [fillFrom, Act.put, List.setIfInBounds_toArray, List.set_cons_zero, List.set_cons_succ, Nat.reduceAdd] at hK ⊢
                go_simp
                exact hK _ _ (Rn.refl _) rfl
              · have h8 : xv 8 = .slice (some ⟨gr, 0, none⟩) nn rc := hp.1 rfl
                have h9 : xv 9 = .int .i64 ((i : Nat) : Int) := hp.2.1 rfl
                unfold PStepR
                rw [if_pos (by rfl)]
                intro K hK
                simp only [fillFrom, Act.put, List.setIfInBounds_toArray, List.set_cons_zero, List.set_cons_succ, Nat.reduceAdd, h8, h9] at hK ⊢
                go_simp
                exact hK _ _ (Rn.refl _) rfl
              · have h10 : xv 10 = .pointer (some ⟨gr, i * 2, none⟩) := hp.1 rfl
                unfold PStepR
                rw [if_pos (by rfl)]
                intro K hK
                simp only [fillFrom, Act.put, List.setIfInBounds_toArray, List.set_cons_zero, List.set_cons_succ, Nat.reduceAdd, h10] at hK ⊢
                go_simp
                exact hK _ _ (Rn.refl _) rfl
              · have h11 : xv 11 = .pointer (some ⟨gr, i * 2, none⟩) := hp.1 rfl
                have xq : wq.cell? ⟨gr, i * 2, none⟩ = some (.string x) := (Below.cell hR.1 (p := ⟨gr, i * 2, none⟩) grW).trans xW
                unfold PStepR
                rw [if_pos (by rfl)]
                intro K hK
                simp only [fillFrom, Act.put, List.setIfInBounds_toArray, List.set_cons_zero, List.set_cons_succ, Nat.reduceAdd, h11] at hK ⊢
                go_simp
                exact hK _ _ (Rn.refl _) rfl
              · have h12 : xv 12 = .string x := hp.1 rfl
                unfold PStepR
                rw [if_pos (by rfl)]
                intro K hK
                simp only [fillFrom, Act.put, List.setIfInBounds_toArray, List.set_cons_zero, List.set_cons_succ, Nat.reduceAdd, h12] at hK ⊢
                go_simp
                exact hK _ _ (Rn.grow ((Grow.refl _).alloc _) hR.1.size) ⟨_, rfl, by simp, by rw [cell_blk (heap_alloc_new wq (.cells #[.string x] 9)) 0]; rfl⟩
              · have h4 : wq.ownsRow W.heap.size 9 1 (xv 4) j (((namesTo fs i).take j).map Value.string) := hp.1 rfl
                obtain ⟨g9, h13, _, hc9⟩ : ∃ g, xv 13 = .slice (some ⟨g, 0, none⟩) 1 1 ∧ g < wq.heap.size ∧ wq.cell? ⟨g, 0, none⟩ = some (.string x) := hp.2.1 rfl
                unfold PStepR
                rw [if_pos (by rfl)]
                intro K hK
                simp only [fillFrom, Act.put, List.setIfInBounds_toArray, List.set_cons_zero, List.set_cons_succ, Nat.reduceAdd, h13] at hK ⊢
                refine wp_append_srcs2 wq _ _ 52 52 (by rfl) W.heap.size 9 i0 _ 16 Try.underlying52 hi0 hz0 hz1 hz2 rfl (xv 4) (by rfl) j (((namesTo fs i).take j).map Value.string) h4 _ (by rfl) 1 [.string x] (src_one g9 hc9) (by unfold maxLen; omega) (by omega) hR.1.size ?_
                intro v' w' hown' hcase
                rcases hcase with hg | ⟨g4, cap4, e1, e2, hg⟩
                · exact hK _ _ (Rn.grow hg hR.1.size) hown'
                · rw [e1] at h4
                  subst e2
                  exact hK _ _ ⟨below_grown (Below.refl _ _) hg hR.1.size (fun q hq => by injection hq with hq; rw [← hq]; exact (own_at.1 h4).2.1), fun _ _ => Ph.room hg h4 hown'⟩ hown'
              · have h14 : wq.ownsRow W.heap.size 9 1 (xv 14) (j + 1) ((((namesTo fs i).take j).map Value.string) ++ [.string x]) := hp.1 rfl
                unfold PStepR
                rw [if_pos (by rfl)]
                intro K hK
                simp only [fillFrom, Act.put, List.setIfInBounds_toArray, List.set_cons_zero, List.set_cons_succ, Nat.reduceAdd] at hK ⊢
                go_simp
                exact hK _ _ (Rn.refl _) h14
            · intro xv w9 hR hP
              have e15 : w9.ownsRow W.heap.size 9 1 (xv 15) (j + 1) ((((namesTo fs i).take j).map Value.string) ++ [.string x]) := hP.2.2.2.2.2.2.2.2.2.2.2.2.2.2.2.1
              obtain ⟨V, hV⟩ : ∃ V, V = xv 15 := ⟨_, rfl⟩
              rw [← hV] at e15
              simp only [fillFrom, Act.put, List.setIfInBounds_toArray, List.set_cons_zero, List.set_cons_succ, Nat.reduceAdd, ← hV]
              have E15 := Lib.hid e15
              have HR := Lib.hid hR.1
              have z9 := hR.1.size
              have SR13 := Lib.hid (strs_src ((namesTo fs i).drop j) g j (i - j) (c - j) CLW.out.1 hR.1 (by rw [List.length_drop, HLN.out]) (fun q y hy => CLW.out.2 (j + q) y (by rw [← hy, List.getElem?_drop])))
              clear hP hV e15 hR
              go_wp2_with (at_builtin; refine wpList_append_srcs2 _ (by rfl) _ _ 52 52 (by rfl) W.heap.size 9 i0 _ 16 Try.underlying52 hi0 hz0 hz1 hz2 rfl _ (by rfl) (j + 1) _ E15.out _ (by rfl) _ _ SR13.out (by unfold maxLen; omega) (by omega) z9 ?_; intro v8 w8 hown8 hcase8; have H8 := Lib.hid (And.intro hown8 hcase8); clear hown8 hcase8)
              obtain ⟨hown8, hcase8⟩ := H8.out
              have OW8 := Lib.hid (show w8.ownsRow w.heap.size 9 1 v8 (i + 1) ((namesTo fs (i + 1)).map Value.string) from by
                rw [HNX.out]
                unfold insN
                rw [HJ.out, List.map_append, List.map_append]
                have := ownsRow_base (C := w.heap.size) hown8 (by omega)
                rw [show i + 1 = j + 1 + (i - j) from by omega]
                exact this)
              have G8 := Lib.hid (show Grow w w8 from by
                have h9 : Below w.heap.size w w9 := Below.trans (HB.out.trans GW.out) (Below.mono HR.out (by omega))
                rcases hcase8 with hg | ⟨g6, cap6, e1, _, hg⟩
                · exact Below.trans h9 (Below.mono hg (Below.size h9))
                · refine below_grown h9 hg (Below.size h9) (fun q hq => ?_)
                  injection hq with hq
                  have := E15.out
                  rw [e1] at this
                  rw [← hq]
                  have := (own_at.1 this).2.1
                  omega)
              clear H8 hown8 hcase8
              go_roundw
              case rel => exact ⟨i + 1, _, by omega, by go_num, rfl, OW8, G8⟩
              case measure => simp [intOf]; omega
        · have hd : decide (j < i) = false := by simp; omega
          have k4 : ¬ (j : Int) < (i : Int) := by omega
          have HJ := Lib.hid (insAt_eq (namesTo fs i) x j (fun q z hq hz => H.out q z hq hz) (fun z hz => by rw [List.getElem?_eq_none (by rw [HLN.out]; omega)] at hz; cases hz) (by rw [HLN.out]; omega))
          obtain rfl : i = j := by omega
          rcases own_form OW.out with ⟨h1, h0⟩ | ⟨g, cap, h1⟩
          · injection h1 with h1 _ h2
            subst h1 h2
            subst h0
            go_wp2
            go_quiet (fail)
            obtain ⟨W, hW⟩ : ∃ W, W = wr.drewN nq := ⟨_, rfl⟩
            have GW := Lib.hid (show Grow wI W from by rw [hW]; exact below_drewN HB5.out _)
            rw [← hW]
            clear hW
            have zW := Grow.size GW.out
            have xW : W.cell? ⟨gr, 0 * 2, none⟩ = some (.string x) := (Below.cell GW.out (p := ⟨gr, 0 * 2, none⟩) hgrw).trans hxw
            have cW : W.cell? ⟨xb, 1, none⟩ = some (.slice (some ⟨gr, 0, none⟩) nn rc) := (Below.cell GW.out (p := ⟨xb, 1, none⟩) hxl).trans c1
            have grW : gr < W.heap.size := by omega
            have xbW : xb < W.heap.size := by omega
            have LJ := Lib.hid (show (((namesTo fs 0).take 0).map Value.string).length = 0 from by rw [List.length_map, List.length_take, HLN.out]; omega)
            go_wp2
            refine wp_region_R' (Rn W.heap.size (.slice none 0 0) (.slice none 0 0) (.slice (some ⟨gr, 0, none⟩) nn rc) 0 0 gr xb x (((namesTo fs 0).take 0).map Value.string)) Rn.refl Rn.trans (Rn.grow ((Grow.refl _).drew) (Nat.le_refl _)) (Ph W.heap.size (.slice none 0 0) (.slice none 0 0) (.slice (some ⟨gr, 0, none⟩) nn rc) 0 0 gr xb x (((namesTo fs 0).take 0).map Value.string)) (by kernel_rfl) (by kernel_rfl) (fun _ _ _ _ h hv => h.2 _ _ hv) ?_ ?_
            · intro xv wq hR
              refine ⟨fun hp => ?_, fun hp => ?_, fun hp => ?_, fun hp => ?_, fun hp => ?_, fun hp => ?_, fun hp => ?_, fun hp => ?_, fun hp => ?_, fun hp => ?_, fun hp => ?_, fun hp => ?_, fun hp => ?_, fun hp => ?_, fun hp => ?_, fun hp => ?_, trivial⟩
              · unfold PStepR
                rw [if_pos (by rfl)]
                intro K hK
                simp only [fillFrom, Act.put, List.setIfInBounds_toArray, List.set_cons_zero, List.set_cons_succ, Nat.reduceAdd] at hK ⊢
                go_simp
                exact hK _ _ (Rn.grow ((Grow.refl _).alloc _) hR.1.size) ⟨⟨_, rfl⟩, ownsRow_empty0 wq W.heap.size 9 1 hR.1.size⟩
              · unfold PStepR
                rw [if_pos (by rfl)]
                intro K hK
                simp only [fillFrom, Act.put, List.setIfInBounds_toArray, List.set_cons_zero, List.set_cons_succ, Nat.reduceAdd] at hK ⊢
                go_simp
                exact hK _ _ (Rn.refl _) rfl
              · unfold PStepR
                rw [if_pos (by rfl)]
                intro K hK
                simp only [fillFrom, Act.put, List.setIfInBounds_toArray, List.set_cons_zero, List.set_cons_succ, Nat.reduceAdd] at hK ⊢
                go_simp
                exact hK _ _ (Rn.refl _) rfl
              · have h1 : xv 1 = (.slice none 0 0) := hp.1 rfl
                have h2 : xv 2 = .int .i64 ((0 : Nat) : Int) := hp.2.1 rfl
                unfold PStepR
                rw [if_pos (by rfl)]
                intro K hK
                simp only [fillFrom, Act.put, List.setIfInBounds_toArray, List.set_cons_zero, List.set_cons_succ, Nat.reduceAdd, h1, h2] at hK ⊢
                go_simp
                exact hK _ _ (Rn.refl _) rfl
              · obtain ⟨⟨g0, h0⟩, own0⟩ : (∃ g, xv 0 = .slice (some ⟨g, 0, none⟩) 0 0) ∧ wq.ownsRow W.heap.size 9 1 (xv 0) 0 [] := hp.1 rfl
                have h3 : xv 3 = (.slice none 0 0) := hp.2.1 rfl
                rw [h0] at own0
                unfold PStepR
                rw [if_pos (by rfl)]
                intro K hK
                simp only [fillFrom, Act.put, List.setIfInBounds_toArray, List.set_cons_zero, List.set_cons_succ, Nat.reduceAdd, h0, h3] at hK ⊢
                refine wp_append_fresh wq _ _ 52 52 (by rfl) W.heap.size 9 i0 _ 1 16 Try.underlying52 hi0 hz0 hz1 hz2 rfl _ (by rfl) (.inr ⟨g0, rfl⟩) own0 _ (by rfl) 0 (((namesTo fs 0).take 0).map Value.string) (Src.ofNil _ Try.underlying52 0) (by unfold maxLen; omega) (by omega) hR.1.size ?_
                intro v' w' hown' hgrow' _ _
                exact hK _ _ (Rn.grow hgrow' hR.1.size) hown'
              · unfold PStepR
                rw [if_pos (by rfl)]
                intro K hK
                simp only [fillFrom, Act.put, List.setIfInBounds_toArray, List.set_cons_zero, List.set_cons_succ, Nat.reduceAdd] at hK ⊢
                go_simp
                exact hK _ _ (Rn.refl _) rfl
              · have h5 : xv 5 = .pointer (some ⟨xb, 0, none⟩) := hp.1 rfl
                unfold PStepR
                rw [if_pos (by rfl)]
                intro K hK
                simp only [fillFrom, Act.put, List.setIfInBounds_toArray, List.set_cons_zero, List.set_cons_succ, Nat.reduceAdd, h5] at hK ⊢
                go_simp
                exact hK _ _ (Rn.refl _) rfl
              · have h6 : xv 6 = .pointer (some ⟨xb, 0, none⟩) := hp.1 rfl
                unfold PStepR
                rw [if_pos (by rfl)]
                intro K hK
                simp only [fillFrom, Act.put, List.setIfInBounds_toArray, List.set_cons_zero, List.set_cons_succ, Nat.reduceAdd, h6] at hK ⊢
                go_simp
                exact hK _ _ (Rn.refl _) rfl
              · have h7 : xv 7 = .pointer (some ⟨xb, 1, none⟩) := hp.1 rfl
                have cq : wq.cell? ⟨xb, 1, none⟩ = some (.slice (some ⟨gr, 0, none⟩) nn rc) := (Below.cell hR.1 (p := ⟨xb, 1, none⟩) xbW).trans cW
                unfold PStepR
                rw [if_pos (by rfl)]
                intro K hK
                simp only [fillFrom, Act.put, List.setIfInBounds_toArray, List.set_cons_zero, List.set_cons_succ, Nat.reduceAdd, h7] at hK ⊢
                go_simp
                exact hK _ _ (Rn.refl _) rfl
              · unfold PStepR
                rw [if_pos (by rfl)]
                intro K hK
                simp only [fillFrom, Act.put, List.setIfInBounds_toArray, List.set_cons_zero, List.set_cons_succ, Nat.reduceAdd] at hK ⊢
                go_simp
                exact hK _ _ (Rn.refl _) rfl
              · have h8 : xv 8 = .slice (some ⟨gr, 0, none⟩) nn rc := hp.1 rfl
                have h9 : xv 9 = .int .i64 ((0 : Nat) : Int) := hp.2.1 rfl
                unfold PStepR
                rw [if_pos (by rfl)]
                intro K hK
                simp only [fillFrom, Act.put, List.setIfInBounds_toArray, List.set_cons_zero, List.set_cons_succ, Nat.reduceAdd, h8, h9] at hK ⊢
                go_simp
                exact hK _ _ (Rn.refl _) rfl
              · have h10 : xv 10 = .pointer (some ⟨gr, 0 * 2, none⟩) := hp.1 rfl
                unfold PStepR
                rw [if_pos (by rfl)]
                intro K hK
                simp only [fillFrom, Act.put, List.setIfInBounds_toArray, List.set_cons_zero, List.set_cons_succ, Nat.reduceAdd, h10] at hK ⊢
                go_simp
                exact hK _ _ (Rn.refl _) rfl
              · have h11 : xv 11 = .pointer (some ⟨gr, 0 * 2, none⟩) := hp.1 rfl
                have xq : wq.cell? ⟨gr, 0 * 2, none⟩ = some (.string x) := (Below.cell hR.1 (p := ⟨gr, 0 * 2, none⟩) grW).trans xW
                unfold PStepR
                rw [if_pos (by rfl)]
                intro K hK
                simp only [fillFrom, Act.put, List.setIfInBounds_toArray, List.set_cons_zero, List.set_cons_succ, Nat.reduceAdd, h11] at hK ⊢
                go_simp
                exact hK _ _ (Rn.refl _) rfl
              · have h12 : xv 12 = .string x := hp.1 rfl
                unfold PStepR
                rw [if_pos (by rfl)]
                intro K hK
                simp only [fillFrom, Act.put, List.setIfInBounds_toArray, List.set_cons_zero, List.set_cons_succ, Nat.reduceAdd, h12] at hK ⊢
                go_simp
                exact hK _ _ (Rn.grow ((Grow.refl _).alloc _) hR.1.size) ⟨_, rfl, by simp, by rw [cell_blk (heap_alloc_new wq (.cells #[.string x] 9)) 0]; rfl⟩
              · have h4 : wq.ownsRow W.heap.size 9 1 (xv 4) 0 (((namesTo fs 0).take 0).map Value.string) := hp.1 rfl
                obtain ⟨g9, h13, _, hc9⟩ : ∃ g, xv 13 = .slice (some ⟨g, 0, none⟩) 1 1 ∧ g < wq.heap.size ∧ wq.cell? ⟨g, 0, none⟩ = some (.string x) := hp.2.1 rfl
                unfold PStepR
                rw [if_pos (by rfl)]
                intro K hK
                simp only [fillFrom, Act.put, List.setIfInBounds_toArray, List.set_cons_zero, List.set_cons_succ, Nat.reduceAdd, h13] at hK ⊢
                refine wp_append_srcs2 wq _ _ 52 52 (by rfl) W.heap.size 9 i0 _ 16 Try.underlying52 hi0 hz0 hz1 hz2 rfl (xv 4) (by rfl) 0 (((namesTo fs 0).take 0).map Value.string) h4 _ (by rfl) 1 [.string x] (src_one g9 hc9) (by unfold maxLen; omega) (by omega) hR.1.size ?_
                intro v' w' hown' hcase
                rcases hcase with hg | ⟨g4, cap4, e1, e2, hg⟩
                · exact hK _ _ (Rn.grow hg hR.1.size) hown'
                · rw [e1] at h4
                  subst e2
                  exact hK _ _ ⟨below_grown (Below.refl _ _) hg hR.1.size (fun q hq => by injection hq with hq; rw [← hq]; exact (own_at.1 h4).2.1), fun _ _ => Ph.room hg h4 hown'⟩ hown'
              · have h14 : wq.ownsRow W.heap.size 9 1 (xv 14) (0 + 1) ((((namesTo fs 0).take 0).map Value.string) ++ [.string x]) := hp.1 rfl
                unfold PStepR
                rw [if_pos (by rfl)]
                intro K hK
                simp only [fillFrom, Act.put, List.setIfInBounds_toArray, List.set_cons_zero, List.set_cons_succ, Nat.reduceAdd] at hK ⊢
                go_simp
                exact hK _ _ (Rn.refl _) h14
            · intro xv w9 hR hP
              have e15 : w9.ownsRow W.heap.size 9 1 (xv 15) (0 + 1) ((((namesTo fs 0).take 0).map Value.string) ++ [.string x]) := hP.2.2.2.2.2.2.2.2.2.2.2.2.2.2.2.1
              obtain ⟨V, hV⟩ : ∃ V, V = xv 15 := ⟨_, rfl⟩
              rw [← hV] at e15
              simp only [fillFrom, Act.put, List.setIfInBounds_toArray, List.set_cons_zero, List.set_cons_succ, Nat.reduceAdd, ← hV]
              have E15 := Lib.hid e15
              have HR := Lib.hid hR.1
              have z9 := hR.1.size
              have SR13 : Hid (Src Try.prog 1 52 (.slice none 0 0) 0 (((namesTo fs 0).drop 0).map Value.string) w9) := Lib.hid (Src.ofNil _ Try.underlying52 0)
              clear hP hV e15 hR
              go_wp2_with (at_builtin; refine wpList_append_srcs2 _ (by rfl) _ _ 52 52 (by rfl) W.heap.size 9 i0 _ 16 Try.underlying52 hi0 hz0 hz1 hz2 rfl _ (by rfl) (0 + 1) _ E15.out _ (by rfl) _ _ SR13.out (by unfold maxLen; omega) (by omega) z9 ?_; intro v8 w8 hown8 hcase8; have H8 := Lib.hid (And.intro hown8 hcase8); clear hown8 hcase8)
              obtain ⟨hown8, hcase8⟩ := H8.out
              have OW8 := Lib.hid (show w8.ownsRow w.heap.size 9 1 v8 (0 + 1) ((namesTo fs (0 + 1)).map Value.string) from by
                rw [HNX.out]
                unfold insN
                rw [HJ.out, List.map_append, List.map_append]
                have := ownsRow_base (C := w.heap.size) hown8 (by omega)
                rw [show 0 + 1 = 0 + 1 + 0 from by omega]
                exact this)
              have G8 := Lib.hid (show Grow w w8 from by
                have h9 : Below w.heap.size w w9 := Below.trans (HB.out.trans GW.out) (Below.mono HR.out (by omega))
                rcases hcase8 with hg | ⟨g6, cap6, e1, _, hg⟩
                · exact Below.trans h9 (Below.mono hg (Below.size h9))
                · refine below_grown h9 hg (Below.size h9) (fun q hq => ?_)
                  injection hq with hq
                  have := E15.out
                  rw [e1] at this
                  rw [← hq]
                  have := (own_at.1 this).2.1
                  omega)
              clear H8 hown8 hcase8
              go_roundw
              case rel => exact ⟨0 + 1, _, by omega, by go_num, rfl, OW8, G8⟩
              case measure => simp [intOf]; omega
          · injection h1 with h1 _ h2
            subst h1
            clear h2 cap
            by_cases hcn : i < c
            · have hcn' : (i : Int) < (c : Int) := by omega
              have hgI : g < wI.heap.size := by
                obtain ⟨_, _, cur, h3, _⟩ := own_at.1 OW.out
                exact lt_blk h3
              go_wp2
              go_quiet (fail)
              obtain ⟨W, hW⟩ : ∃ W, W = wr.drewN nq := ⟨_, rfl⟩
              have GW := Lib.hid (show Grow wI W from by rw [hW]; exact below_drewN HB5.out _)
              rw [← hW]
              clear hW
              have zW := Grow.size GW.out
              have xW : W.cell? ⟨gr, i * 2, none⟩ = some (.string x) := (Below.cell GW.out (p := ⟨gr, i * 2, none⟩) hgrw).trans hxw
              have cW : W.cell? ⟨xb, 1, none⟩ = some (.slice (some ⟨gr, 0, none⟩) nn rc) := (Below.cell GW.out (p := ⟨xb, 1, none⟩) hxl).trans c1
              have grW : gr < W.heap.size := by omega
              have xbW : xb < W.heap.size := by omega
              have CLW := Lib.hid (show g < W.heap.size ∧ ∀ q y, (namesTo fs i)[q]? = some y → W.cell? ⟨g, q, none⟩ = some (.string y) from ⟨by omega, fun q y hy => by
                obtain ⟨g', cap', hl', hc'⟩ := SRC.out q y hy
                injection hl' with hl1 _ hl2
                injection hl1 with hl1
                injection hl1 with hl1 _ _
                subst hl1
                exact (Below.cell GW.out (p := ⟨_, q, none⟩) (World.block_lt_of_cell? wI ⟨_, q, none⟩ hc')).trans hc'⟩)
              have hjc : ((i : Nat) : Int) ≤ ((c : Nat) : Int) := by
                obtain ⟨_, _, _, _, h4, _⟩ := own_at.1 OW.out
                omega
              have hnc : ((i : Nat) : Int) ≤ ((c : Nat) : Int) := by
                obtain ⟨_, _, _, _, h4, _⟩ := own_at.1 OW.out
                omega
              have hjn : ((i : Nat) : Int) ≤ ((i : Nat) : Int) := by omega
              have LJ := Lib.hid (show (((namesTo fs i).take i).map Value.string).length = i from by rw [List.length_map, List.length_take, HLN.out]; omega)
              go_wp2
              refine wp_region_R' (Rn W.heap.size (.slice (some ⟨g, 0, none⟩) i c) (.slice (some ⟨g, 0, none⟩) i c) (.slice (some ⟨gr, 0, none⟩) nn rc) i i gr xb x (((namesTo fs i).take i).map Value.string)) Rn.refl Rn.trans (Rn.grow ((Grow.refl _).drew) (Nat.le_refl _)) (Ph W.heap.size (.slice (some ⟨g, 0, none⟩) i c) (.slice (some ⟨g, 0, none⟩) i c) (.slice (some ⟨gr, 0, none⟩) nn rc) i i gr xb x (((namesTo fs i).take i).map Value.string)) (by kernel_rfl) (by kernel_rfl) (fun _ _ _ _ h hv => h.2 _ _ hv) ?_ ?_
              · intro xv wq hR
                refine ⟨fun hp => ?_, fun hp => ?_, fun hp => ?_, fun hp => ?_, fun hp => ?_, fun hp => ?_, fun hp => ?_, fun hp => ?_, fun hp => ?_, fun hp => ?_, fun hp => ?_, fun hp => ?_, fun hp => ?_, fun hp => ?_, fun hp => ?_, fun hp => ?_, trivial⟩
                · unfold PStepR
                  rw [if_pos (by rfl)]
                  intro K hK
                  simp only [fillFrom, Act.put, List.setIfInBounds_toArray, List.set_cons_zero, List.set_cons_succ, Nat.reduceAdd] at hK ⊢
                  go_simp
                  exact hK _ _ (Rn.grow ((Grow.refl _).alloc _) hR.1.size) ⟨⟨_, rfl⟩, ownsRow_empty0 wq W.heap.size 9 1 hR.1.size⟩
                · unfold PStepR
                  rw [if_pos (by rfl)]
                  intro K hK
                  simp only [fillFrom, Act.put, List.setIfInBounds_toArray, List.set_cons_zero, List.set_cons_succ, Nat.reduceAdd] at hK ⊢
                  go_simp
                  exact hK _ _ (Rn.refl _) rfl
                · unfold PStepR
                  rw [if_pos (by rfl)]
                  intro K hK
                  simp only [fillFrom, Act.put, List.setIfInBounds_toArray, List.set_cons_zero, List.set_cons_succ, Nat.reduceAdd] at hK ⊢
                  go_simp
                  exact hK _ _ (Rn.refl _) rfl
                · have h1 : xv 1 = (.slice (some ⟨g, 0, none⟩) i c) := hp.1 rfl
                  have h2 : xv 2 = .int .i64 ((i : Nat) : Int) := hp.2.1 rfl
                  unfold PStepR
                  rw [if_pos (by rfl)]
                  intro K hK
                  simp only [fillFrom, Act.put, List.setIfInBounds_toArray, List.set_cons_zero, List.set_cons_succ, Nat.reduceAdd, h1, h2] at hK ⊢
                  go_simp
                  exact hK _ _ (Rn.refl _) rfl
                · obtain ⟨⟨g0, h0⟩, own0⟩ : (∃ g, xv 0 = .slice (some ⟨g, 0, none⟩) 0 0) ∧ wq.ownsRow W.heap.size 9 1 (xv 0) 0 [] := hp.1 rfl
                  have h3 : xv 3 = (.slice (some ⟨g, 0, none⟩) i c) := hp.2.1 rfl
                  rw [h0] at own0
                  unfold PStepR
                  rw [if_pos (by rfl)]
                  intro K hK
                  simp only [fillFrom, Act.put, List.setIfInBounds_toArray, List.set_cons_zero, List.set_cons_succ, Nat.reduceAdd, h0, h3] at hK ⊢
                  refine wp_append_fresh wq _ _ 52 52 (by rfl) W.heap.size 9 i0 _ 1 16 Try.underlying52 hi0 hz0 hz1 hz2 rfl _ (by rfl) (.inr ⟨g0, rfl⟩) own0 _ (by rfl) i (((namesTo fs i).take i).map Value.string) (strs_src ((namesTo fs i).take i) g 0 i c CLW.out.1 hR.1 (by rw [List.length_take, HLN.out]; omega) (fun q y hy => by rw [Nat.zero_add]; exact CLW.out.2 q y (take_at hy))) (by unfold maxLen; omega) (by omega) hR.1.size ?_
                  intro v' w' hown' hgrow' _ _
                  exact hK _ _ (Rn.grow hgrow' hR.1.size) hown'
                · unfold PStepR
                  rw [if_pos (by rfl)]
                  intro K hK
                  simp only [fillFrom, Act.put, List.setIfInBounds_toArray, List.set_cons_zero, List.set_cons_succ, Nat.reduceAdd] at hK ⊢
                  go_simp
                  exact hK _ _ (Rn.refl _) rfl
                · have h5 : xv 5 = .pointer (some ⟨xb, 0, none⟩) := hp.1 rfl
                  unfold PStepR
                  rw [if_pos (by rfl)]
                  intro K hK
                  simp only [fillFrom, Act.put, List.setIfInBounds_toArray, List.set_cons_zero, List.set_cons_succ, Nat.reduceAdd, h5] at hK ⊢
                  go_simp
                  exact hK _ _ (Rn.refl _) rfl
                · have h6 : xv 6 = .pointer (some ⟨xb, 0, none⟩) := hp.1 rfl
                  unfold PStepR
                  rw [if_pos (by rfl)]
                  intro K hK
                  simp only [fillFrom, Act.put, List.setIfInBounds_toArray, List.set_cons_zero, List.set_cons_succ, Nat.reduceAdd, h6] at hK ⊢
                  go_simp
                  exact hK _ _ (Rn.refl _) rfl
                · have h7 : xv 7 = .pointer (some ⟨xb, 1, none⟩) := hp.1 rfl
                  have cq : wq.cell? ⟨xb, 1, none⟩ = some (.slice (some ⟨gr, 0, none⟩) nn rc) := (Below.cell hR.1 (p := ⟨xb, 1, none⟩) xbW).trans cW
                  unfold PStepR
                  rw [if_pos (by rfl)]
                  intro K hK
                  simp only [fillFrom, Act.put, List.setIfInBounds_toArray, List.set_cons_zero, List.set_cons_succ, Nat.reduceAdd, h7] at hK ⊢
                  go_simp
                  exact hK _ _ (Rn.refl _) rfl
                · unfold PStepR
                  rw [if_pos (by rfl)]
                  intro K hK
                  simp only [fillFrom, Act.put, List.setIfInBounds_toArray, List.set_cons_zero, List.set_cons_succ, Nat.reduceAdd] at hK ⊢
                  go_simp
                  exact hK _ _ (Rn.refl _) rfl
                · have h8 : xv 8 = .slice (some ⟨gr, 0, none⟩) nn rc := hp.1 rfl
                  have h9 : xv 9 = .int .i64 ((i : Nat) : Int) := hp.2.1 rfl
                  unfold PStepR
                  rw [if_pos (by rfl)]
                  intro K hK
                  simp only [fillFrom, Act.put, List.setIfInBounds_toArray, List.set_cons_zero, List.set_cons_succ, Nat.reduceAdd, h8, h9] at hK ⊢
                  go_simp
                  exact hK _ _ (Rn.refl _) rfl
                · have h10 : xv 10 = .pointer (some ⟨gr, i * 2, none⟩) := hp.1 rfl
                  unfold PStepR
                  rw [if_pos (by rfl)]
                  intro K hK
                  simp only [fillFrom, Act.put, List.setIfInBounds_toArray, List.set_cons_zero, List.set_cons_succ, Nat.reduceAdd, h10] at hK ⊢
                  go_simp
                  exact hK _ _ (Rn.refl _) rfl
                · have h11 : xv 11 = .pointer (some ⟨gr, i * 2, none⟩) := hp.1 rfl
                  have xq : wq.cell? ⟨gr, i * 2, none⟩ = some (.string x) := (Below.cell hR.1 (p := ⟨gr, i * 2, none⟩) grW).trans xW
                  unfold PStepR
                  rw [if_pos (by rfl)]
                  intro K hK
                  simp only [fillFrom, Act.put, List.setIfInBounds_toArray, List.set_cons_zero, List.set_cons_succ, Nat.reduceAdd, h11] at hK ⊢
                  go_simp
                  exact hK _ _ (Rn.refl _) rfl
                · have h12 : xv 12 = .string x := hp.1 rfl
                  unfold PStepR
                  rw [if_pos (by rfl)]
                  intro K hK
                  simp only [fillFrom, Act.put, List.setIfInBounds_toArray, List.set_cons_zero, List.set_cons_succ, Nat.reduceAdd, h12] at hK ⊢
                  go_simp
                  exact hK _ _ (Rn.grow ((Grow.refl _).alloc _) hR.1.size) ⟨_, rfl, by simp, by rw [cell_blk (heap_alloc_new wq (.cells #[.string x] 9)) 0]; rfl⟩
                · have h4 : wq.ownsRow W.heap.size 9 1 (xv 4) i (((namesTo fs i).take i).map Value.string) := hp.1 rfl
                  obtain ⟨g9, h13, _, hc9⟩ : ∃ g, xv 13 = .slice (some ⟨g, 0, none⟩) 1 1 ∧ g < wq.heap.size ∧ wq.cell? ⟨g, 0, none⟩ = some (.string x) := hp.2.1 rfl
                  unfold PStepR
                  rw [if_pos (by rfl)]
                  intro K hK
                  simp only [fillFrom, Act.put, List.setIfInBounds_toArray, List.set_cons_zero, List.set_cons_succ, Nat.reduceAdd, h13] at hK ⊢
                  refine wp_append_srcs2 wq _ _ 52 52 (by rfl) W.heap.size 9 i0 _ 16 Try.underlying52 hi0 hz0 hz1 hz2 rfl (xv 4) (by rfl) i (((namesTo fs i).take i).map Value.string) h4 _ (by rfl) 1 [.string x] (src_one g9 hc9) (by unfold maxLen; omega) (by omega) hR.1.size ?_
                  intro v' w' hown' hcase
                  rcases hcase with hg | ⟨g4, cap4, e1, e2, hg⟩
                  · exact hK _ _ (Rn.grow hg hR.1.size) hown'
                  · rw [e1] at h4
                    subst e2
                    exact hK _ _ ⟨below_grown (Below.refl _ _) hg hR.1.size (fun q hq => by injection hq with hq; rw [← hq]; exact (own_at.1 h4).2.1), fun _ _ => Ph.room hg h4 hown'⟩ hown'
                · have h14 : wq.ownsRow W.heap.size 9 1 (xv 14) (i + 1) ((((namesTo fs i).take i).map Value.string) ++ [.string x]) := hp.1 rfl
                  unfold PStepR
                  rw [if_pos (by rfl)]
                  intro K hK
                  simp only [fillFrom, Act.put, List.setIfInBounds_toArray, List.set_cons_zero, List.set_cons_succ, Nat.reduceAdd] at hK ⊢
                  go_simp
                  exact hK _ _ (Rn.refl _) h14
              · intro xv w9 hR hP
                have e15 : w9.ownsRow W.heap.size 9 1 (xv 15) (i + 1) ((((namesTo fs i).take i).map Value.string) ++ [.string x]) := hP.2.2.2.2.2.2.2.2.2.2.2.2.2.2.2.1
                obtain ⟨V, hV⟩ : ∃ V, V = xv 15 := ⟨_, rfl⟩
                rw [← hV] at e15
                simp only [fillFrom, Act.put, List.setIfInBounds_toArray, List.set_cons_zero, List.set_cons_succ, Nat.reduceAdd, ← hV]
                have E15 := Lib.hid e15
                have HR := Lib.hid hR.1
                have z9 := hR.1.size
                have SR13 : Hid (Src Try.prog 1 52 (.slice (some ⟨g, i, none⟩) 0 (c - i)) 0 (((namesTo fs i).drop i).map Value.string) w9) := Lib.hid (strs_src ((namesTo fs i).drop i) g i 0 (c - i) CLW.out.1 hR.1 (by rw [List.length_drop, HLN.out]; omega) (fun q y hy => CLW.out.2 (i + q) y (by rw [← hy, List.getElem?_drop])))
                clear hP hV e15 hR
                go_wp2_with (at_builtin; refine wpList_append_srcs2 _ (by rfl) _ _ 52 52 (by rfl) W.heap.size 9 i0 _ 16 Try.underlying52 hi0 hz0 hz1 hz2 rfl _ (by rfl) (i + 1) _ E15.out _ (by rfl) _ _ SR13.out (by unfold maxLen; omega) (by omega) z9 ?_; intro v8 w8 hown8 hcase8; have H8 := Lib.hid (And.intro hown8 hcase8); clear hown8 hcase8)
                obtain ⟨hown8, hcase8⟩ := H8.out
                have OW8 := Lib.hid (show w8.ownsRow w.heap.size 9 1 v8 (i + 1) ((namesTo fs (i + 1)).map Value.string) from by
                  rw [HNX.out]
                  unfold insN
                  rw [HJ.out, List.map_append, List.map_append]
                  have := ownsRow_base (C := w.heap.size) hown8 (by omega)
                  rw [show i + 1 = i + 1 + 0 from by omega]
                  exact this)
                have G8 := Lib.hid (show Grow w w8 from by
                  have h9 : Below w.heap.size w w9 := Below.trans (HB.out.trans GW.out) (Below.mono HR.out (by omega))
                  rcases hcase8 with hg | ⟨g6, cap6, e1, _, hg⟩
                  · exact Below.trans h9 (Below.mono hg (Below.size h9))
                  · refine below_grown h9 hg (Below.size h9) (fun q hq => ?_)
                    injection hq with hq
                    have := E15.out
                    rw [e1] at this
                    rw [← hq]
                    have := (own_at.1 this).2.1
                    omega)
                clear H8 hown8 hcase8
                go_roundw
                case rel => exact ⟨i + 1, _, by omega, by go_num, rfl, OW8, G8⟩
                case measure => simp [intOf]; omega
            · have hci : c = i := by
                obtain ⟨_, _, _, _, h4, _⟩ := own_at.1 OW.out
                omega
              subst hci
              have hgI : g < wI.heap.size := by
                obtain ⟨_, _, cur, h3, _⟩ := own_at.1 OW.out
                exact lt_blk h3
              go_wp2
              go_quiet (fail)
              obtain ⟨W, hW⟩ : ∃ W, W = wr.drewN nq := ⟨_, rfl⟩
              have GW := Lib.hid (show Grow wI W from by rw [hW]; exact below_drewN HB5.out _)
              rw [← hW]
              clear hW
              have zW := Grow.size GW.out
              have xW : W.cell? ⟨gr, c * 2, none⟩ = some (.string x) := (Below.cell GW.out (p := ⟨gr, c * 2, none⟩) hgrw).trans hxw
              have cW : W.cell? ⟨xb, 1, none⟩ = some (.slice (some ⟨gr, 0, none⟩) nn rc) := (Below.cell GW.out (p := ⟨xb, 1, none⟩) hxl).trans c1
              have grW : gr < W.heap.size := by omega
              have xbW : xb < W.heap.size := by omega
              have CLW := Lib.hid (show g < W.heap.size ∧ ∀ q y, (namesTo fs c)[q]? = some y → W.cell? ⟨g, q, none⟩ = some (.string y) from ⟨by omega, fun q y hy => by
                obtain ⟨g', cap', hl', hc'⟩ := SRC.out q y hy
                injection hl' with hl1 _ hl2
                injection hl1 with hl1
                injection hl1 with hl1 _ _
                subst hl1
                exact (Below.cell GW.out (p := ⟨_, q, none⟩) (World.block_lt_of_cell? wI ⟨_, q, none⟩ hc')).trans hc'⟩)
              have hjc : ((c : Nat) : Int) ≤ ((c : Nat) : Int) := by
                obtain ⟨_, _, _, _, h4, _⟩ := own_at.1 OW.out
                omega
              have hnc : ((c : Nat) : Int) ≤ ((c : Nat) : Int) := by
                obtain ⟨_, _, _, _, h4, _⟩ := own_at.1 OW.out
                omega
              have hjn : ((c : Nat) : Int) ≤ ((c : Nat) : Int) := by omega
              have LJ := Lib.hid (show (((namesTo fs c).take c).map Value.string).length = c from by rw [List.length_map, List.length_take, HLN.out]; omega)
              go_wp2
              refine wp_region_R' (Rn W.heap.size (.slice (some ⟨g, 0, none⟩) c c) (.slice (some ⟨g, 0, none⟩) c c) (.slice (some ⟨gr, 0, none⟩) nn rc) c c gr xb x (((namesTo fs c).take c).map Value.string)) Rn.refl Rn.trans (Rn.grow ((Grow.refl _).drew) (Nat.le_refl _)) (Ph W.heap.size (.slice (some ⟨g, 0, none⟩) c c) (.slice (some ⟨g, 0, none⟩) c c) (.slice (some ⟨gr, 0, none⟩) nn rc) c c gr xb x (((namesTo fs c).take c).map Value.string)) (by kernel_rfl) (by kernel_rfl) (fun _ _ _ _ h hv => h.2 _ _ hv) ?_ ?_
              · intro xv wq hR
                refine ⟨fun hp => ?_, fun hp => ?_, fun hp => ?_, fun hp => ?_, fun hp => ?_, fun hp => ?_, fun hp => ?_, fun hp => ?_, fun hp => ?_, fun hp => ?_, fun hp => ?_, fun hp => ?_, fun hp => ?_, fun hp => ?_, fun hp => ?_, fun hp => ?_, trivial⟩
                · unfold PStepR
                  rw [if_pos (by rfl)]
                  intro K hK
                  simp only [fillFrom, Act.put, List.setIfInBounds_toArray, List.set_cons_zero, List.set_cons_succ, Nat.reduceAdd] at hK ⊢
                  go_simp
                  exact hK _ _ (Rn.grow ((Grow.refl _).alloc _) hR.1.size) ⟨⟨_, rfl⟩, ownsRow_empty0 wq W.heap.size 9 1 hR.1.size⟩
                · unfold PStepR
                  rw [if_pos (by rfl)]
                  intro K hK
                  simp only [fillFrom, Act.put, List.setIfInBounds_toArray, List.set_cons_zero, List.set_cons_succ, Nat.reduceAdd] at hK ⊢
                  go_simp
                  exact hK _ _ (Rn.refl _) rfl
                · unfold PStepR
                  rw [if_pos (by rfl)]
                  intro K hK
                  simp only [fillFrom, Act.put, List.setIfInBounds_toArray, List.set_cons_zero, List.set_cons_succ, Nat.reduceAdd] at hK ⊢
                  go_simp
                  exact hK _ _ (Rn.refl _) rfl
                · have h1 : xv 1 = (.slice (some ⟨g, 0, none⟩) c c) := hp.1 rfl
                  have h2 : xv 2 = .int .i64 ((c : Nat) : Int) := hp.2.1 rfl
                  unfold PStepR
                  rw [if_pos (by rfl)]
                  intro K hK
                  simp only [fillFrom, Act.put, List.setIfInBounds_toArray, List.set_cons_zero, List.set_cons_succ, Nat.reduceAdd, h1, h2] at hK ⊢
                  go_simp
                  exact hK _ _ (Rn.refl _) rfl
                · obtain ⟨⟨g0, h0⟩, own0⟩ : (∃ g, xv 0 = .slice (some ⟨g, 0, none⟩) 0 0) ∧ wq.ownsRow W.heap.size 9 1 (xv 0) 0 [] := hp.1 rfl
                  have h3 : xv 3 = (.slice (some ⟨g, 0, none⟩) c c) := hp.2.1 rfl
                  rw [h0] at own0
                  unfold PStepR
                  rw [if_pos (by rfl)]
                  intro K hK
                  simp only [fillFrom, Act.put, List.setIfInBounds_toArray, List.set_cons_zero, List.set_cons_succ, Nat.reduceAdd, h0, h3] at hK ⊢
                  refine wp_append_fresh wq _ _ 52 52 (by rfl) W.heap.size 9 i0 _ 1 16 Try.underlying52 hi0 hz0 hz1 hz2 rfl _ (by rfl) (.inr ⟨g0, rfl⟩) own0 _ (by rfl) c (((namesTo fs c).take c).map Value.string) (strs_src ((namesTo fs c).take c) g 0 c c CLW.out.1 hR.1 (by rw [List.length_take, HLN.out]; omega) (fun q y hy => by rw [Nat.zero_add]; exact CLW.out.2 q y (take_at hy))) (by unfold maxLen; omega) (by omega) hR.1.size ?_
                  intro v' w' hown' hgrow' _ _
                  exact hK _ _ (Rn.grow hgrow' hR.1.size) hown'
                · unfold PStepR
                  rw [if_pos (by rfl)]
                  intro K hK
                  simp only [fillFrom, Act.put, List.setIfInBounds_toArray, List.set_cons_zero, List.set_cons_succ, Nat.reduceAdd] at hK ⊢
                  go_simp
                  exact hK _ _ (Rn.refl _) rfl
                · have h5 : xv 5 = .pointer (some ⟨xb, 0, none⟩) := hp.1 rfl
                  unfold PStepR
                  rw [if_pos (by rfl)]
                  intro K hK
                  simp only [fillFrom, Act.put, List.setIfInBounds_toArray, List.set_cons_zero, List.set_cons_succ, Nat.reduceAdd, h5] at hK ⊢
                  go_simp
                  exact hK _ _ (Rn.refl _) rfl
                · have h6 : xv 6 = .pointer (some ⟨xb, 0, none⟩) := hp.1 rfl
                  unfold PStepR
                  rw [if_pos (by rfl)]
                  intro K hK
                  simp only [fillFrom, Act.put, List.setIfInBounds_toArray, List.set_cons_zero, List.set_cons_succ, Nat.reduceAdd, h6] at hK ⊢
                  go_simp
                  exact hK _ _ (Rn.refl _) rfl
                · have h7 : xv 7 = .pointer (some ⟨xb, 1, none⟩) := hp.1 rfl
                  have cq : wq.cell? ⟨xb, 1, none⟩ = some (.slice (some ⟨gr, 0, none⟩) nn rc) := (Below.cell hR.1 (p := ⟨xb, 1, none⟩) xbW).trans cW
                  unfold PStepR
                  rw [if_pos (by rfl)]
                  intro K hK
                  simp only [fillFrom, Act.put, List.setIfInBounds_toArray, List.set_cons_zero, List.set_cons_succ, Nat.reduceAdd, h7] at hK ⊢
                  go_simp
                  exact hK _ _ (Rn.refl _) rfl
                · unfold PStepR
                  rw [if_pos (by rfl)]
                  intro K hK
                  simp only [fillFrom, Act.put, List.setIfInBounds_toArray, List.set_cons_zero, List.set_cons_succ, Nat.reduceAdd] at hK ⊢
                  go_simp
                  exact hK _ _ (Rn.refl _) rfl
                · have h8 : xv 8 = .slice (some ⟨gr, 0, none⟩) nn rc := hp.1 rfl
                  have h9 : xv 9 = .int .i64 ((c : Nat) : Int) := hp.2.1 rfl
                  unfold PStepR
                  rw [if_pos (by rfl)]
                  intro K hK
                  simp only [fillFrom, Act.put, List.setIfInBounds_toArray, List.set_cons_zero, List.set_cons_succ, Nat.reduceAdd, h8, h9] at hK ⊢
                  go_simp
                  exact hK _ _ (Rn.refl _) rfl
                · have h10 : xv 10 = .pointer (some ⟨gr, c * 2, none⟩) := hp.1 rfl
                  unfold PStepR
                  rw [if_pos (by rfl)]
                  intro K hK
                  simp only [fillFrom, Act.put, List.setIfInBounds_toArray, List.set_cons_zero, List.set_cons_succ, Nat.reduceAdd, h10] at hK ⊢
                  go_simp
                  exact hK _ _ (Rn.refl _) rfl
                · have h11 : xv 11 = .pointer (some ⟨gr, c * 2, none⟩) := hp.1 rfl
                  have xq : wq.cell? ⟨gr, c * 2, none⟩ = some (.string x) := (Below.cell hR.1 (p := ⟨gr, c * 2, none⟩) grW).trans xW
                  unfold PStepR
                  rw [if_pos (by rfl)]
                  intro K hK
                  simp only [fillFrom, Act.put, List.setIfInBounds_toArray, List.set_cons_zero, List.set_cons_succ, Nat.reduceAdd, h11] at hK ⊢
                  go_simp
                  exact hK _ _ (Rn.refl _) rfl
                · have h12 : xv 12 = .string x := hp.1 rfl
                  unfold PStepR
                  rw [if_pos (by rfl)]
                  intro K hK
                  simp only [fillFrom, Act.put, List.setIfInBounds_toArray, List.set_cons_zero, List.set_cons_succ, Nat.reduceAdd, h12] at hK ⊢
                  go_simp
                  exact hK _ _ (Rn.grow ((Grow.refl _).alloc _) hR.1.size) ⟨_, rfl, by simp, by rw [cell_blk (heap_alloc_new wq (.cells #[.string x] 9)) 0]; rfl⟩
                · have h4 : wq.ownsRow W.heap.size 9 1 (xv 4) c (((namesTo fs c).take c).map Value.string) := hp.1 rfl
                  obtain ⟨g9, h13, _, hc9⟩ : ∃ g, xv 13 = .slice (some ⟨g, 0, none⟩) 1 1 ∧ g < wq.heap.size ∧ wq.cell? ⟨g, 0, none⟩ = some (.string x) := hp.2.1 rfl
                  unfold PStepR
                  rw [if_pos (by rfl)]
                  intro K hK
                  simp only [fillFrom, Act.put, List.setIfInBounds_toArray, List.set_cons_zero, List.set_cons_succ, Nat.reduceAdd, h13] at hK ⊢
                  refine wp_append_srcs2 wq _ _ 52 52 (by rfl) W.heap.size 9 i0 _ 16 Try.underlying52 hi0 hz0 hz1 hz2 rfl (xv 4) (by rfl) c (((namesTo fs c).take c).map Value.string) h4 _ (by rfl) 1 [.string x] (src_one g9 hc9) (by unfold maxLen; omega) (by omega) hR.1.size ?_
                  intro v' w' hown' hcase
                  rcases hcase with hg | ⟨g4, cap4, e1, e2, hg⟩
                  · exact hK _ _ (Rn.grow hg hR.1.size) hown'
                  · rw [e1] at h4
                    subst e2
                    exact hK _ _ ⟨below_grown (Below.refl _ _) hg hR.1.size (fun q hq => by injection hq with hq; rw [← hq]; exact (own_at.1 h4).2.1), fun _ _ => Ph.room hg h4 hown'⟩ hown'
                · have h14 : wq.ownsRow W.heap.size 9 1 (xv 14) (c + 1) ((((namesTo fs c).take c).map Value.string) ++ [.string x]) := hp.1 rfl
                  unfold PStepR
                  rw [if_pos (by rfl)]
                  intro K hK
                  simp only [fillFrom, Act.put, List.setIfInBounds_toArray, List.set_cons_zero, List.set_cons_succ, Nat.reduceAdd] at hK ⊢
                  go_simp
                  exact hK _ _ (Rn.refl _) h14
              · intro xv w9 hR hP
                have e15 : w9.ownsRow W.heap.size 9 1 (xv 15) (c + 1) ((((namesTo fs c).take c).map Value.string) ++ [.string x]) := hP.2.2.2.2.2.2.2.2.2.2.2.2.2.2.2.1
                obtain ⟨V, hV⟩ : ∃ V, V = xv 15 := ⟨_, rfl⟩
                rw [← hV] at e15
                simp only [fillFrom, Act.put, List.setIfInBounds_toArray, List.set_cons_zero, List.set_cons_succ, Nat.reduceAdd, ← hV]
                have E15 := Lib.hid e15
                have HR := Lib.hid hR.1
                have z9 := hR.1.size
                have SR13 : Hid (Src Try.prog 1 52 (.slice (some ⟨g, 0, none⟩) 0 0) 0 (((namesTo fs c).drop c).map Value.string) w9) := Lib.hid (strs_src ((namesTo fs c).drop c) g 0 0 0 CLW.out.1 hR.1 (by rw [List.length_drop, HLN.out]; omega) (fun q y hy => by rw [List.getElem?_eq_none (by rw [List.length_drop, HLN.out]; omega)] at hy; cases hy))
                clear hP hV e15 hR
                go_wp2_with (at_builtin; refine wpList_append_srcs2 _ (by rfl) _ _ 52 52 (by rfl) W.heap.size 9 i0 _ 16 Try.underlying52 hi0 hz0 hz1 hz2 rfl _ (by rfl) (c + 1) _ E15.out _ (by rfl) _ _ SR13.out (by unfold maxLen; omega) (by omega) z9 ?_; intro v8 w8 hown8 hcase8; have H8 := Lib.hid (And.intro hown8 hcase8); clear hown8 hcase8)
                obtain ⟨hown8, hcase8⟩ := H8.out
                have OW8 := Lib.hid (show w8.ownsRow w.heap.size 9 1 v8 (c + 1) ((namesTo fs (c + 1)).map Value.string) from by
                  rw [HNX.out]
                  unfold insN
                  rw [HJ.out, List.map_append, List.map_append]
                  have := ownsRow_base (C := w.heap.size) hown8 (by omega)
                  rw [show c + 1 = c + 1 + 0 from by omega]
                  exact this)
                have G8 := Lib.hid (show Grow w w8 from by
                  have h9 : Below w.heap.size w w9 := Below.trans (HB.out.trans GW.out) (Below.mono HR.out (by omega))
                  rcases hcase8 with hg | ⟨g6, cap6, e1, _, hg⟩
                  · exact Below.trans h9 (Below.mono hg (Below.size h9))
                  · refine below_grown h9 hg (Below.size h9) (fun q hq => ?_)
                    injection hq with hq
                    have := E15.out
                    rw [e1] at this
                    rw [← hq]
                    have := (own_at.1 this).2.1
                    omega)
                clear H8 hown8 hcase8
                go_roundw
                case rel => exact ⟨c + 1, _, by omega, by go_num, rfl, OW8, G8⟩
                case measure => simp [intOf]; omega
    · have k1 : ¬ (i : Int) < (nn : Int) := by omega
      obtain rfl : nn = i := by omega
      have FIN := Lib.hid (show wI.ownsRow w.heap.size 9 1 l (sortN fs).length ((sortN fs).map encStr) from by
        have h1 := OW.out
        rw [show namesTo fs nn = insAll fs from by unfold namesTo; rw [HNN.out, List.take_length], insAll_enc] at h1
        have h2 : (sortN fs).length = nn := by rw [HNN.out, ← insAll_sort, List.length_map, insAll_len]
        rw [h2]
        exact h1)
      go_wp2
      go_ret
      exact ⟨_, rfl, FIN.out, HB.out⟩
end Go.Proofs.Yticpldjcmhpjoaa
