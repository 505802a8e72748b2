/-
  SubstNone: the plain law, and the walk.
-/
import Derived.Test.YtldcbkememonaaaN8
import Derived.Test.YtldcbkememonaaaJ2

namespace Go.Proofs.Ytldcbkememonaaa
open Go.RowKit
set_option linter.unusedVariables false
set_option linter.unusedSimpArgs false

/-- the template that stands for all that was found -/
def tz : ByteArray := ⟨#[92, 48]⟩
theorem ext_app (x : ByteArray) (i j k : Nat) (h1 : i ≤ j) (h2 : j ≤ k) (h3 : k ≤ x.size) : x.extract i j ++ x.extract j k = x.extract i k := by
  apply ByteArray.ext
  simp [Nat.min_eq_left h1, Nat.max_eq_right h2]
theorem pcs_tz (tx : ByteArray) (ps : List Int) : pcs tz tx ps 3 0 = [grpF tx ps 0] := by
  have h0 : by_ tz 0 = 92 := by decide
  have h1 : by_ tz 1 = 48 := by decide
  have h2 : tz.size = 2 := rfl
  have h3 : digB 48 = true := by decide
  simp [pcs, h0, h1, h2, h3]
theorem pcs_e0 (tx : ByteArray) (ps : List Int) (k i : Nat) : pcs e0 tx ps k i = [] := by
  cases k with
  | zero => rfl
  | succ k =>
    unfold pcs
    rw [if_neg (by show ¬ i < 0; omega)]
/-- all of it is put back -/
theorem allP_tz (gr : Int) (L : List Ins) (tx : ByteArray) : ∀ (k p : Nat) (s : ByteArray), joinB s (allP gr L tz tx k p) = s ++ tx.extract p tx.size
  | 0, p, s => tail_join s tx p
  | k + 1, p, s => by
    unfold allP
    by_cases hp : tx.size < p
    · rw [if_pos hp, ext_nil tx p (by omega), app_e0]
      rfl
    · rw [if_neg hp]
      cases hf : findF gr L tx p with
      | none => exact tail_join s tx p
      | some o =>
        cases o with
        | none => exact tail_join s tx p
        | some ps =>
          simp only
          by_cases hb : ps.getD 0 0 < p ∨ ps.getD 1 0 < ps.getD 0 0
          · rw [if_pos hb]
            exact tail_join s tx p
          · rw [if_neg hb]
            obtain ⟨h1, h2, _⟩ := findF_psIn hf
            have hb1 : ps.getD 1 0 ≤ tx.size := by
              have : ps.getD 1 0 ∈ ps := by
                rw [List.getD_eq_getElem?_getD, List.getElem?_eq_getElem (by omega)]
                simp
              exact (h1 _ this).2
            obtain ⟨a, ha⟩ : ∃ a : Nat, ps.getD 0 0 = a := ⟨(ps.getD 0 0).toNat, by omega⟩
            obtain ⟨b, hbb⟩ : ∃ b : Nat, ps.getD 1 0 = b := ⟨(ps.getD 1 0).toNat, by omega⟩
            have hg : grpF tx ps 0 = tx.extract a b := by
              unfold grpF
              rw [if_neg (by omega)]
              have e1 : (2 * (0 : Int)).toNat = 0 := rfl
              have e2 : (2 * (0 : Int) + 1).toNat = 1 := rfl
              rw [e1, e2, ha, hbb, if_neg (by omega)]
              rfl
            have hl : tz.size + 1 = 3 := rfl
            rw [hl, pcs_tz, hg, ha, hbb]
            simp only [Int.toNat_natCast]
            rw [hbb] at hb1 hb
            rw [ha] at hb
            have j1 : ∀ l, joinB s (tx.extract p a :: ([tx.extract a b] ++ l)) = joinB (s ++ tx.extract p b) l := fun l => by
              show joinB (s ++ tx.extract p a ++ tx.extract a b) l = _
              rw [app_assoc, ext_app tx p a b (by omega) (by omega) (by omega)]
            rw [j1]
            split
            · split
              · rw [joinB_append]
                show joinB (s ++ tx.extract p b ++ tx.extract b (b + 1)) _ = _
                rw [allP_tz gr L tx k (b + 1), app_assoc s, ext_app tx p b (b + 1) (by omega) (by omega) (by omega), app_assoc, ext_app tx p (b + 1) tx.size (by omega) (by omega) (by omega)]
              · rw [List.nil_append, allP_tz gr L tx k (b + 1), ext_nil tx (b + 1) (by omega), app_e0]
                have : b = tx.size := by omega
                rw [this]
            · rw [allP_tz gr L tx k b, app_assoc, ext_app tx p b tx.size (by omega) (by omega) (by omega)]
theorem allF_tz (gr : Int) (L : List Ins) (tx : ByteArray) (h : tx.size ≤ 60) : allF gr L tz tx = (tx, 0) := by
  have h0 : checkF tz = 0 := by decide
  have h1 : joinB e0 (allP gr L tz tx (tx.size + 2) 0) = tx := by
    rw [allP_tz, e0_app]
    simp
  unfold allF
  rw [h0, if_neg (by omega), h1, if_neg (by omega)]
/-- nothing is put there -/
theorem allP_e0 (gr : Int) (L : List Ins) (tx : ByteArray) : ∀ (k p : Nat) (s : ByteArray), (joinB s (allP gr L e0 tx k p)).size ≤ s.size + (tx.size - p)
  | 0, p, s => by
    show (joinB s (tailP tx p)).size ≤ _
    rw [tail_join, ByteArray.size_append, ByteArray.size_extract]
    omega
  | k + 1, p, s => by
    have tl : (joinB s (tailP tx p)).size ≤ s.size + (tx.size - p) := by
      rw [tail_join, ByteArray.size_append, ByteArray.size_extract]
      omega
    unfold allP
    by_cases hp : tx.size < p
    · rw [if_pos hp]
      show s.size ≤ _
      omega
    · rw [if_neg hp]
      cases hf : findF gr L tx p with
      | none => exact tl
      | some o =>
        cases o with
        | none => exact tl
        | some ps =>
          simp only
          by_cases hb : ps.getD 0 0 < p ∨ ps.getD 1 0 < ps.getD 0 0
          · rw [if_pos hb]
            exact tl
          · rw [if_neg hb]
            obtain ⟨h1, h2, _⟩ := findF_psIn hf
            have hb1 : ps.getD 1 0 ≤ tx.size := by
              have : ps.getD 1 0 ∈ ps := by
                rw [List.getD_eq_getElem?_getD, List.getElem?_eq_getElem (by omega)]
                simp
              exact (h1 _ this).2
            obtain ⟨a, ha⟩ : ∃ a : Nat, ps.getD 0 0 = a := ⟨(ps.getD 0 0).toNat, by omega⟩
            obtain ⟨b, hbb⟩ : ∃ b : Nat, ps.getD 1 0 = b := ⟨(ps.getD 1 0).toNat, by omega⟩
            rw [pcs_e0, ha, hbb]
            simp only [Int.toNat_natCast, List.nil_append]
            rw [hbb] at hb1 hb
            rw [ha] at hb
            have j1 : ∀ l, joinB s (tx.extract p a :: l) = joinB (s ++ tx.extract p a) l := fun l => rfl
            rw [j1]
            have z1 : (s ++ tx.extract p a).size = s.size + (a - p) := by
              rw [ByteArray.size_append, ByteArray.size_extract]
              omega
            split
            · split
              · rw [joinB_append]
                show (joinB (s ++ tx.extract p a ++ tx.extract b (b + 1)) _).size ≤ _
                have := allP_e0 gr L tx k (b + 1) (s ++ tx.extract p a ++ tx.extract b (b + 1))
                rw [ByteArray.size_append, z1, ByteArray.size_extract] at this
                omega
              · rw [List.nil_append]
                have := allP_e0 gr L tx k (b + 1) (s ++ tx.extract p a)
                omega
            · have := allP_e0 gr L tx k b (s ++ tx.extract p a)
              omega
theorem allF_e0 (gr : Int) (L : List Ins) (tx : ByteArray) (h : tx.size ≤ 60) : (allF gr L e0 tx).2 = 0 := by
  have h0 : checkF e0 = 0 := by decide
  have h1 := allP_e0 gr L tx (tx.size + 2) 0 e0
  have h2 : e0.size = 0 := rfl
  unfold allF
  rw [h0, if_neg (by omega), if_neg (by omega)]
set_option maxRecDepth 100000 in
set_option maxHeartbeats 4000000 in
theorem snone_any (s tx : ByteArray) (w : World) : Calls Try.prog 9 #[.string s, .string tx] w (TrueP true w) := by
  by_cases h1 : 60 < s.size
  · have h1' : (60 : Int) < (s.size : Int) := by omega
    go_enter Try.func9, Try.ntmps9
    go_wp2
    go_ret
    exact ⟨rfl, Grow.refl w⟩
  · have h1' : ¬ (60 : Int) < (s.size : Int) := by omega
    by_cases h3 : 60 < tx.size
    · have h3' : (60 : Int) < (tx.size : Int) := by omega
      go_enter Try.func9, Try.ntmps9
      go_wp2
      go_ret
      exact ⟨rfl, Grow.refl w⟩
    · have h3' : ¬ (60 : Int) < (tx.size : Int) := by omega
      have LO := (comp_lok s (by omega)).1
      have of0 := of13_all s (by omega) w
      unfold OfP13 at of0
      obtain ⟨gq, hgq⟩ : ∃ gq : Int, gq = (compF s).1 := ⟨_, rfl⟩
      obtain ⟨L, hL⟩ : ∃ L, L = (compF s).2.1 := ⟨_, rfl⟩
      obtain ⟨ok, hok⟩ : ∃ ok, ok = ((compF s).2.2 == 0) := ⟨_, rfl⟩
      rw [← hgq, ← hL, ← hok] at of0
      rw [← hL] at LO
      clear hgq hL hok
      have OF := Lib.hid of0
      have HLO := Lib.hid LO
      have KN := Lib.hid known13_any
      clear LO of0
      go_enter Try.func9, Try.ntmps9
      go_wp2_with fail
      refine OF.out.mono ?_
      rintro e w1 ⟨lv, lq, rfl, own1, own2, g1⟩
      obtain ⟨a, c, g, rfl, rd, had⟩ := of_rd own1
      obtain ⟨aq, cq, gg, rfl, rdq, hadq⟩ := like_rd own2
      obtain ⟨n, hn⟩ : ∃ n, n = L.length := ⟨_, rfl⟩
      obtain ⟨R, hR⟩ : ∃ R, R = (allF gq L e0 tx).1 := ⟨_, rfl⟩
      have hRe : allF gq L e0 tx = (R, 0) := by rw [hR, ← allF_e0 gq L tx (by omega)]
      have A23 := fun w' (h : Grow w1 w') => all23_any L gq tz tx w' a c g 0 (rd.grow h) had HLO.out (by decide) (by omega)
      have A25 := fun w' (h : Grow w1 w') => all23_any L gq e0 tx w' a c g 0 (rd.grow h) had HLO.out (by decide) (by omega)
      have A24 := fun w' (h : Grow w1 w') => all24_any L gq e0 tx w' aq cq gg 0 (rdq.grow h) hadq HLO.out (by decide) (by omega)
      rw [← hn, allF_tz gq L tx (by omega)] at A23
      rw [← hn, hRe] at A24 A25
      have A23 := Lib.hid A23
      have A24 := Lib.hid A24
      have A25 := Lib.hid A25
      have G1 := Lib.hid g1
      rw [← hn]
      clear own1 own2 g1 rd rdq had hadq hn hR OF hRe
      obtain ⟨W1, hW1⟩ : ∃ W1, W1 = (w1.alloc (.cells #[.int .i64 gq, .slice a n c] 24)).alloc (.cells #[.int .i64 gq, .slice aq n cq] 33) := ⟨_, rfl⟩
      have g1W : Grow w1 W1 := by rw [hW1]; exact ((Grow.refl w1).alloc _).alloc _
      have hbq : W1.heap[w1.heap.size + 1]? = some (.cells #[.int .i64 gq, .slice aq n cq] 33 (0, 0)) := by
        have := heap_alloc_new (w1.alloc (.cells #[.int .i64 gq, .slice a n c] 24)) (.cells #[.int .i64 gq, .slice aq n cq] 33)
        rw [hW1]
        simpa using this
      have hbp : W1.heap[w1.heap.size]? = some (.cells #[.int .i64 gq, .slice a n c] 24 (0, 0)) := by
        rw [hW1, heap_alloc_old _ _ (by simp)]
        exact heap_alloc_new w1 _
      have d0 := cell_blk hbq 0
      have d1 := cell_blk hbq 1
      have d2 := cell_blk hbp 0
      have d3 := cell_blk hbp 1
      simp at d0 d1 d2 d3
      have zb := lt_blk hbq
      have zc : w1.heap.size < W1.heap.size := by omega
      have G1W := Lib.hid g1W
      have HW1 := Lib.hid hW1
      clear hbq hbp g1W hW1
      cases ok with
      | false =>
        go_wp2_with fail
        rw [← HW1.out]
        refine (KN.out _).mono ?_
        rintro e w2 ⟨rfl, g2⟩
        have G2 := Lib.hid ((G1.out.trans2 G1W.out).trans2 g2)
        clear g2
        go_wp2
        go_ret
        exact ⟨rfl, G2.out⟩
      | true =>
        go_wp2_with fail
        rw [← HW1.out]
        refine (A23.out _ G1W.out).mono ?_
        rintro e w2 ⟨rfl, g2⟩
        have p0 := (Below.cell g2 (p := ⟨w1.heap.size + 1, 0, none⟩) zb).trans d0
        have p1 := (Below.cell g2 (p := ⟨w1.heap.size + 1, 1, none⟩) zb).trans d1
        have p2 := (Below.cell g2 (p := ⟨w1.heap.size, 0, none⟩) zc).trans d2
        have p3 := (Below.cell g2 (p := ⟨w1.heap.size, 1, none⟩) zc).trans d3
        have zb2 : w1.heap.size + 1 < w2.heap.size := Nat.lt_of_lt_of_le zb (Grow.size g2)
        have zc2 : w1.heap.size < w2.heap.size := by omega
        have G2 := Lib.hid (G1W.out.trans2 g2)
        clear g2 d0 d1 d2 d3
        go_wp2_with fail
        refine (A24.out _ G2.out).mono ?_
        rintro e w3 ⟨rfl, g3⟩
        have G3 := Lib.hid (G2.out.trans2 g3)
        have q2 := (Below.cell g3 (p := ⟨w1.heap.size, 0, none⟩) zc2).trans p2
        have q3 := (Below.cell g3 (p := ⟨w1.heap.size, 1, none⟩) zc2).trans p3
        have zc3 : w1.heap.size < w3.heap.size := Nat.lt_of_lt_of_le zc2 (Grow.size g3)
        clear g3 p0 p1 p2 p3
        go_wp2_with fail
        refine (A25.out _ G3.out).mono ?_
        rintro e w4 ⟨rfl, g4⟩
        have G4 := Lib.hid (G3.out.trans2 g4)
        clear g4 q2 q3
        have ES := str_eq R
        have ET := str_eq tx
        go_wp2_with fail
        refine (KN.out _).mono ?_
        rintro e w5 ⟨rfl, g5⟩
        have G5 := Lib.hid ((G1.out.trans2 G4.out).trans2 g5)
        clear g5
        go_wp2
        go_ret
        exact ⟨rfl, G5.out⟩
end Go.Proofs.Ytldcbkememonaaa
