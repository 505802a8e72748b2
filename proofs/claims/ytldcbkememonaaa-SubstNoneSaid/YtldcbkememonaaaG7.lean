/-
  The walks of graticuleref12.Find and of its Is.
-/
import Derived.Test.YtldcbkememonaaaG6
import Derived.Test.YtldcbkememonaaaG8

namespace Go.Proofs.Ytldcbkememonaaa
open Go.RowKit
set_option linter.unusedVariables false
set_option linter.unusedSimpArgs false

theorem ST_eq (L : List Ins) (tx : ByteArray) (nw : List Int) (p : Nat) (h : p ≤ tx.size) :
    ST L tx nw (tx.size - p) = ((fresh L tx.size p ⟨nw, 0⟩).findSome? (RD L tx (tx.size - p))).or (if p < tx.size then ST L tx nw (tx.size - (p + 1)) else none) := by
  by_cases h1 : p < tx.size
  · rw [if_pos h1]
    obtain ⟨k, hk⟩ : ∃ k, tx.size - p = k + 1 := ⟨tx.size - p - 1, by omega⟩
    have h2 : tx.size - (p + 1) = k := by omega
    have h3 : tx.size - (k + 1) = p := by omega
    rw [hk, h2]
    show ((fresh L tx.size (tx.size - (k + 1)) ⟨nw, 0⟩).findSome? (RD L tx (k + 1))).or (ST L tx nw k) = _
    rw [h3]
  · obtain rfl : p = tx.size := by omega
    rw [if_neg h1, Nat.sub_self]
    show (fresh L tx.size tx.size ⟨nw, 0⟩).findSome? (RD L tx 0) = _
    simp
set_option maxRecDepth 100000 in
set_option maxHeartbeats 4000000 in
theorem find12_any (L : List Ins) (tx : ByteArray) (gr from_ : Int) (R : Option (List Int)) (hR : findF gr L tx from_ = some R) (w : World) (a : Option Addr) (c g o : Nat) (hrd : RdI L g o w) (had : 0 < L.length → a = some ⟨g, o, none⟩) (LO : LOk L) (htx : tx.size ≤ 10000) :
    Calls Try.prog 12 #[.agg #[.int .i64 gr, .slice a L.length c], .string tx, .int .i64 from_] w (FindP R w) := by
  obtain ⟨nL, hnL⟩ : ∃ nL, nL = L.length := ⟨_, rfl⟩
  rw [← hnL]
  have HNL := Lib.hid hnL
  have HRD := Lib.hid hrd
  have HAD := Lib.hid had
  have HLO := Lib.hid LO
  have HR := Lib.hid hR
  clear hnL hrd had LO hR
  have NO : (from_ < 0 ∨ (tx.size : Int) < from_ ∨ gr < 0 ∨ 1024 < gr) → Hid (R = none) := fun h => Lib.hid (by
    have := HR.out
    unfold findF at this
    rw [if_pos h] at this
    injection this with this
    exact this.symm)
  by_cases c1 : from_ < 0
  · have N := NO (.inl c1)
    clear NO
    go_enter Try.func12, Try.ntmps12
    go_wp2
    go_ret2
    exact ⟨_, by rw [N.out]; rfl, by rw [N.out]; rfl, (Grow.refl w).alloc _⟩
  · by_cases c2 : (tx.size : Int) < from_
    · have N := NO (.inr (.inl c2))
      clear NO
      go_enter Try.func12, Try.ntmps12
      go_wp2
      go_ret2
      exact ⟨_, by rw [N.out]; rfl, by rw [N.out]; rfl, (Grow.refl w).alloc _⟩
    · by_cases c3 : gr < 0
      · have N := NO (.inr (.inr (.inl c3)))
        clear NO
        go_enter Try.func12, Try.ntmps12
        go_wp2
        go_ret2
        exact ⟨_, by rw [N.out]; rfl, by rw [N.out]; rfl, (Grow.refl w).alloc _⟩
      · by_cases c4 : 1024 < gr
        · have N := NO (.inr (.inr (.inr c4)))
          clear NO
          go_enter Try.func12, Try.ntmps12
          go_wp2
          go_ret2
          exact ⟨_, by rw [N.out]; rfl, by rw [N.out]; rfl, (Grow.refl w).alloc _⟩
        · clear NO
          obtain ⟨q0, rfl⟩ : ∃ q0 : Nat, from_ = q0 := ⟨from_.toNat, by omega⟩
          obtain ⟨G, rfl⟩ : ∃ G : Nat, gr = G := ⟨gr.toNat, by omega⟩
          have hfg : ST L tx (List.replicate (2 * G + 2) (-1)) (tx.size - q0) = R := by
            have := HR.out
            rw [findF_spec _ _ _ _ (by omega)] at this
            injection this
          have hG : G ≤ 1024 := by omega
          obtain ⟨nw, hnw⟩ : ∃ nw, nw = List.replicate (2 * G + 2) (-1 : Int) := ⟨_, rfl⟩
          rw [← hnw] at hfg
          have HNW := Lib.hid hnw
          have HFG := Lib.hid hfg
          clear HR hfg hnw
          obtain ⟨W1, hW1⟩ : ∃ W1, W1 = w.alloc (.cells #[.int .i64 G, .slice a nL c] 33) := ⟨_, rfl⟩
          have G1 := Lib.hid (show Grow w W1 from by rw [hW1]; exact (Grow.refl w).alloc _)
          have PB := Lib.hid (show W1.heap[w.heap.size]? = some (.cells #[.int .i64 G, .slice a nL c] 33 (0, 0)) from by rw [hW1]; exact heap_alloc_new w _)
          have z1 : w.heap.size < W1.heap.size := lt_blk PB.out
          have HW1 := Lib.hid hW1
          have d0 := cell_blk PB.out 0
          simp at d0
          clear hW1
          go_enter Try.func12, Try.ntmps12
          go_wp2
          rw [← HW1.out]
          go_loopw [8] (fun t8 wr => ∃ (p : Nat), p ≤ tx.size + 1 ∧ t8 = .int .i64 p ∧ Hid (Grow W1 wr) ∧ Hid (p ≤ tx.size → ST L tx nw (tx.size - p) = R) ∧ Hid (tx.size < p → R = none)) (fun t8 _ => tx.size + 1 - (intOf t8).toNat)
          case atStart => exact ⟨q0, by omega, rfl, Lib.hid (Grow.refl W1), Lib.hid (fun _ => HFG.out), Lib.hid (fun h => by omega)⟩
          case round =>
            obtain ⟨p, hp, rfl, HG, HS, HE⟩ := hrel
            have k0 : (0 : Int) ≤ (p : Int) := by omega
            have pb := (Below.block HG.out _ z1).trans PB.out
            have p0 := cell_blk pb 0
            have p1 := cell_blk pb 1
            simp at p0 p1
            have zr : w.heap.size < wr.heap.size := lt_blk pb
            clear pb d0
            by_cases hlt : p ≤ tx.size
            · have k1 : (p : Int) ≤ (tx.size : Int) := by omega
              have hwf := walkF_spec L tx p hlt ⟨List.replicate (2 * G + 2) (-1), 0⟩
              obtain ⟨Rp, hRp⟩ : ∃ Rp, Rp = (fresh L tx.size p ⟨List.replicate (2 * G + 2) (-1), 0⟩).findSome? (RD L tx (tx.size - p)) := ⟨_, rfl⟩
              rw [← hRp] at hwf
              have hst := HS.out hlt
              rw [ST_eq L tx nw p hlt, HNW.out, ← hRp, ← HNW.out] at hst
              have WK := walk33_any L tx G p Rp hwf wr a c g o (HRD.out.grow (G1.out.trans2 HG.out)) HAD.out HLO.out htx hG hlt
              rw [← HNL.out] at WK
              have WK := Lib.hid WK
              have HST := Lib.hid hst
              clear hwf hRp hst
              go_wp2_with fail
              refine WK.out.mono ?_
              rintro e w5 ⟨v5, rfl, hf5, hg5⟩
              have HF5 := Lib.hid hf5
              have HG5 := Lib.hid (HG.out.trans2 hg5)
              clear hf5 hg5 WK
              cases Rp with
              | some ps =>
                have hst := HST.out
                simp only [Option.some_or] at hst
                have HR2 := Lib.hid hst
                clear hst HST
                go_wp2
                go_ret2
                exact ⟨v5, by rw [← HR2.out]; rfl, by rw [← HR2.out]; exact HF5.out, G1.out.trans2 HG5.out⟩
              | none =>
                have hst := HST.out
                simp only [Option.none_or] at hst
                have HR2 := Lib.hid hst
                clear hst HST
                go_wp2
                go_roundw
                case rel => exact ⟨p + 1, by omega, by go_num, HG5, Lib.hid (fun h => by have := HR2.out; rw [if_pos (by omega)] at this; exact this), Lib.hid (fun h => by have := HR2.out; rw [if_neg (by omega)] at this; exact this.symm)⟩
                case measure => simp [intOf]; omega
            · have k1 : ¬ (p : Int) ≤ (tx.size : Int) := by omega
              have HN := Lib.hid (HE.out (by omega))
              go_wp2
              go_ret2
              exact ⟨_, by rw [HN.out]; rfl, by rw [HN.out]; rfl, G1.out.trans2 HG.out⟩
set_option maxHeartbeats 1000000 in
theorem is18_any (L : List Ins) (tx : ByteArray) (gr : Int) (R : Option (List Int)) (hR : findF gr L tx 0 = some R) (w : World) (a : Option Addr) (c g o : Nat) (hrd : RdI L g o w) (had : 0 < L.length → a = some ⟨g, o, none⟩) (LO : LOk L) (htx : tx.size ≤ 10000) :
    Calls Try.prog 18 #[.agg #[.int .i64 gr, .slice a L.length c], .string tx] w (IsP R w) := by
  have FN := fun w' => fun (h : Grow w w') => find12_any L tx gr 0 R hR w' a c g o (hrd.grow h) had LO htx
  obtain ⟨nL, hnL⟩ : ∃ nL, nL = L.length := ⟨_, rfl⟩
  rw [← hnL] at FN ⊢
  have FN := Lib.hid FN
  clear hR hrd had LO hnL
  go_enter Try.func18, Try.ntmps18
  go_wp2_with fail
  refine (FN.out _ ((Grow.refl w).alloc _)).mono ?_
  rintro e w5 ⟨v5, rfl, _, hg5⟩
  have HG5 := Lib.hid (((Grow.refl w).alloc _).trans2 hg5)
  clear hg5
  go_wp2
  go_ret
  exact ⟨rfl, HG5.out⟩
end Go.Proofs.Ytldcbkememonaaa
