/-
  The walk of piece.
-/
import Derived.Test.YtldcbkememonaaaPd

namespace Go.Proofs.Ytldcbkememonaaa
open Go.RowKit
set_option linter.unusedVariables false
set_option linter.unusedSimpArgs false

/-- a piece, behind its atom -/
def pieceG (s : ByteArray) (fr : Nat) (st1 : RS) : RS :=
  if st1.err ≠ 0 ∨ st1.at_ = s.size then st1
  else
    let c := by_ s st1.at_
    if c == 42 || c == 43 || c == 63 then
      let lazy := moreF s (st1.at_ + 1) 63
      let x := (st1.L.drop fr).map (movI (-(fr : Int)))
      let st2 : RS := { st1 with at_ := if lazy then st1.at_ + 2 else st1.at_ + 1, L := st1.L.take fr }
      let i := splitOf c lazy fr x.length
      if c == 43 then (st2.put x).lay i
      else if c == 42 then ((st2.lay i).put x).lay ⟨3, fr, 0, e0⟩
      else (st2.lay i).put x
    else st1
theorem pieceF_eq (s : ByteArray) (wf : RS → RS) (st : RS) : pieceF s wf st = pieceG s st.L.length (atomF s wf st) := rfl
theorem own_fr {B r n : Nat} {u v : Value} {w w' : World} {xs : List Value} (h : w.ownsRow B 76 4 u n xs) (f : Fr r v w w') (hr : u.ownBlock ≠ some r) (hv : ∀ g, u.ownBlock = some g → v.ownBlock ≠ some g) : w'.ownsRow B 76 4 u n xs := by
  refine ⟨h.1, ?_⟩
  rcases h.2 with h1 | ⟨g, cap, cur, h1, h2, h3, h4⟩
  · exact .inl h1
  · refine .inr ⟨g, cap, cur, h1, h2, ?_, h4⟩
    have hg : u.ownBlock = some g := by rw [h1]; rfl
    rw [f.block g (lt_blk h3) (fun e => hr (by rw [hg, e])) (fun e => hv g hg e.symm)]
    exact h3
theorem put_own (B Bv r : Nat) (s : ByteArray) (st : RS) (v : Value) (L2 : List Ins) (al : Option Addr) (m cl : Nat) (w : World) (h : RA B r s st v w) (hn : st.L.length + m ≤ 100000) (hl : L2.length = m)
    (ov : w.ownsRow Bv 76 4 (.slice al m cl) m (cellsI L2)) : Calls Try.prog 51 #[.pointer (some ⟨r, 0, none⟩), .slice al m cl] w (RPost B r s (st.put L2) v w) := by
  rcases ov.2 with ⟨h1, h2⟩ | ⟨g, cap, cur, h1, _⟩
  · subst h2
    exact (put_any B r s st v L2 al 0 cl 0 0 w h hn hl (fun k i hk => by rw [List.eq_nil_of_length_eq_zero hl] at hk; simp at hk) (fun h => absurd h (by omega))).mono fun _ _ hp => RPost.of_put hp
  · injection h1 with h1 _ h3
    subst h1 h3
    exact (put_any B r s st v L2 _ m cl g 0 w h hn hl (rdI_own ov hl) (fun _ => rfl)).mono fun _ _ hp => RPost.of_put hp
theorem lay_r (B r : Nat) (s : ByteArray) (st : RS) (v : Value) (i : Ins) (w : World) (h : RA B r s st v w) (hn : st.L.length ≤ 100000) :
    Calls Try.prog 43 #[.pointer (some ⟨r, 0, none⟩), .agg #[.int .i64 i.op, .int .i64 i.x, .int .i64 i.y, .string i.ps]] w fun e w' => e = .returned (.int .i64 (st.L.length : Nat)) ∧ ∃ v', Stp B r s v w (st.lay i) v' w' :=
  (lay_any B r s st v i w h hn).mono fun _ _ ⟨h1, v', h2, h3, h4⟩ => ⟨h1, v', h2, h3, h4⟩
set_option maxRecDepth 100000 in
set_option maxHeartbeats 4000000 in
theorem piece_walk (B r : Nat) (s : ByteArray) (st X : RS) (v : Value) (w : World) (h : RA B r s st v w) (hs : s.size ≤ 10000) (hat : X.at_ ≤ s.size) (hfr : st.L.length ≤ X.L.length) (h0 : 0 < X.L.length) (hn : X.L.length ≤ 30000)
    (AT : Calls Try.prog 54 #[.pointer (some ⟨r, 0, none⟩)] w (RPost B r s X v w)) :
    Calls Try.prog 52 #[.pointer (some ⟨r, 0, none⟩)] w (RPost B r s (pieceG s st.L.length X) v w) := by
  obtain ⟨fr, hfe⟩ : ∃ fr, fr = st.L.length := ⟨_, rfl⟩
  obtain ⟨a, cap, hv, _⟩ := own_shape h.own
  have c5 := h.c5
  rw [← hfe] at hv hfr ⊢
  rw [hv] at c5
  have AA := Lib.hid AT
  obtain ⟨S, hS⟩ : ∃ S, S = pieceG s fr X := ⟨_, rfl⟩
  rw [← hS]
  have HS := Lib.hid hS
  have HFR := Lib.hid hfr
  clear AT hS hv hfe h
  go_enter Try.func52, Try.ntmps52
  go_wp2_with fail
  refine AA.out.mono ?_
  rintro e w1 ⟨rfl, v1, s1⟩
  have S1 := Lib.hid s1
  have d0 := s1.ra.c0
  have d1 := s1.ra.c1
  have d3 := s1.ra.c3
  have f1 := s1.ra.fz 1
  obtain ⟨p, hpp⟩ : ∃ p, p = X.at_ := ⟨_, rfl⟩
  obtain ⟨E, hE⟩ : ∃ E, E = X.err := ⟨_, rfl⟩
  rw [← hpp] at d1 hat
  rw [← hE] at d3
  have HP := Lib.hid hpp
  have HE := Lib.hid hE
  have k0 : (0 : Int) ≤ (p : Int) := by omega
  have k2 : (p : Int) ≤ 10000 := by omega
  clear s1 hpp hE c5 AA
  cases tE : (E != 0) with
  | true =>
    have hS : S = X := by
      rw [HS.out]
      unfold pieceG
      rw [if_pos (Or.inl (by rw [← HE.out]; simpa using tE))]
    subst hS
    go_wp2
    go_quiet (fail)
    have S2 := Lib.hid (S1.out.drews nq)
    go_wp2
    go_end0
    exact ⟨rfl, v1, S2.out⟩
  | false =>
    have hE0 : E = 0 := by simpa using tE
    subst hE0
    cases tp : ((p : Int) == (s.size : Int)) with
    | true =>
      have hS : S = X := by
        rw [HS.out]
        unfold pieceG
        rw [if_pos (Or.inr (by rw [← HP.out]; simp at tp; omega))]
      subst hS
      go_wp2
      go_quiet (fail)
      have S2 := Lib.hid (S1.out.drews nq)
      go_wp2
      go_end0
      exact ⟨rfl, v1, S2.out⟩
    | false =>
      have hlt : p < s.size := by simp at tp; omega
      have k1 : (p : Int) < (s.size : Int) := by omega
      obtain ⟨c, hcc⟩ : ∃ c, c = by_ s p := ⟨_, rfl⟩
      have hcs : s[p].toNat = c := by rw [hcc, by_at s p hlt]
      have HC := Lib.hid hcc
      clear hcc
      go_wp2
      go_quiet (fail)
      generalize nq = nq0
      go_wp2
      go_quiet (fail)
      by_cases hc : c = 42 ∨ c = 43 ∨ c = 63
      · obtain ⟨W0, hW0⟩ : ∃ W0, W0 = (w1.drewN nq0).drewN nq := ⟨_, rfl⟩
        have s2 : Stp B r s v w X v1 W0 := by rw [hW0]; exact (S1.out.drews nq0).drews nq
        have d0 := s2.ra.c0
        have d1 := s2.ra.c1
        have f1 := s2.ra.fz 1
        rw [← HP.out] at d1
        have S3 := Lib.hid (s2.set (st2 := { X with at_ := p + 1 }) 1 (.int .i64 ((p : Int) + 1)) rfl rfl)
        obtain ⟨lz, hlz⟩ : ∃ lz, lz = moreF s (p + 1) 63 := ⟨_, rfl⟩
        have MO := Lib.hid (more_any B r s { X with at_ := p + 1 } v1 63 _ S3.out.ra)
        rw [show moreF s ({ X with at_ := p + 1 } : RS).at_ 63 = lz from hlz.symm] at MO
        have HLZ := Lib.hid hlz
        have tc : (((c : Int) == 42) = true ∧ ((c : Int) == 43) = false ∧ ((c : Int) == 63) = false) ∨ (((c : Int) == 42) = false ∧ ((c : Int) == 43) = true ∧ ((c : Int) == 63) = false) ∨ (((c : Int) == 42) = false ∧ ((c : Int) == 43) = false ∧ ((c : Int) == 63) = true) := by
          rcases hc with rfl | rfl | rfl
          · exact .inl ⟨rfl, rfl, rfl⟩
          · exact .inr (.inl ⟨rfl, rfl, rfl⟩)
          · exact .inr (.inr ⟨rfl, rfl, rfl⟩)
        have HCC := Lib.hid hc
        clear s2 hc hlz
        have CU := Lib.hid (fun (st : RS) (v : Value) (w : World) (h : RA B r s st v w) (hL : st.L = X.L) => cut_any B r s st v fr w h (by rw [hL]; omega) (by rw [hL]; exact h0) (by rw [hL]; exact HFR.out))
        rcases tc with ⟨t1, t2, t3⟩ | ⟨t1, t2, t3⟩ | ⟨t1, t2, t3⟩
        · have n1 : ((c : Int) != 42) = !((c : Int) == 42) := rfl
          have n2 : ((c : Int) != 43) = !((c : Int) == 43) := rfl
          have n3 : ((c : Int) != 63) = !((c : Int) == 63) := rfl
          rw [t1] at n1
          rw [t2] at n2
          rw [t3] at n3
          simp only [Bool.not_true, Bool.not_false] at n1 n2 n3
          rw [← hW0]
          clear hW0
          go_wp2_with fail
          refine MO.out.mono ?_
          rintro e w2 ⟨rfl, nn, rfl⟩
          have q0 := (S3.out.drews nn).ra.c0
          have q1 := (S3.out.drews nn).ra.c1
          have f1 := (S3.out.drews nn).ra.fz 1
          obtain ⟨W2, hW2⟩ : ∃ W2, W2 = (W0.setCell ⟨r, 1, none⟩ (.int .i64 ((p : Int) + 1))).drewN nn := ⟨_, rfl⟩
          rw [← hW2] at q0 q1 f1 ⊢
          have S4 := Lib.hid (S3.out.drews nn)
          rw [← hW2] at S4
          clear hW2 d0 d1
          cases lz
          · have S5 := S4
            have CC := Lib.hid (CU.out _ _ _ S5.out.ra rfl)
            go_wp2_with fail
            refine CC.out.mono ?_
            rintro e w4 ⟨vl, v4, rfl, ov, r4, fr4, nb4, dj⟩
            obtain ⟨al, cl, rfl, _⟩ := own_shape ov
            obtain ⟨m, hm⟩ : ∃ m, m = X.L.length - fr := ⟨_, rfl⟩
            have hm3 : m ≤ 30000 := by omega
            have hf3 : fr ≤ 30000 := by have := HFR.out; omega
            rw [show ({ X with at_ := _ } : RS).L.length - fr = m from hm.symm] at ov dj ⊢
            have HM := Lib.hid hm
            have hl2 : ((X.L.drop fr).map (movI (-(fr : Int)))).length = m := by rw [List.length_map, List.length_drop, hm]
            have hl4 : (X.L.take fr).length ≤ 30000 := by rw [List.length_take]; omega
            have hs : S = (((({ X with at_ := p + 1, L := X.L.take fr } : RS).lay (⟨2, (fr : Int) + 1, (fr : Int) + 2 + m, e0⟩ : Ins)).put ((X.L.drop fr).map (movI (-(fr : Int))))).lay ⟨3, fr, 0, e0⟩) := by
              have hby : by_ s X.at_ = 42 := by rw [← HP.out, ← HC.out]; simp at t1; omega
              have hmo : moreF s (X.at_ + 1) 63 = false := by rw [← HP.out]; exact HLZ.out.symm
              rw [HS.out]
              unfold pieceG
              rw [if_neg (by rw [← HP.out, ← HE.out]; simp; omega)]
              simp only [hby, hmo, hl2]
              rw [← HP.out]
              rfl
            subst hs
            have S6 := Lib.hid ((S5.out.trans ⟨r4, fr4, nb4⟩).grow ((Grow.refl w4).alloc (.cells #[.int .i64 2, .int .i64 ((fr : Int) + 1), .int .i64 ((fr : Int) + 2 + m), .string ⟨#[]⟩] 76)))
            have OV := Lib.hid (own_grow ov ((Grow.refl w4).alloc (.cells #[.int .i64 2, .int .i64 ((fr : Int) + 1), .int .i64 ((fr : Int) + 2 + m), .string ⟨#[]⟩] 76)))
            have ONR := Lib.hid (show (Value.slice al m cl).ownBlock ≠ some r from fun e => by have := (ov.lt r e).1; have := S5.out.ra.lt; omega)
            have DJ := Lib.hid dj
            have HL2 := Lib.hid hl2

            clear ov dj hl2 hm r4 fr4 nb4 q0 q1 f1
            have L1 := Lib.hid (lay_r B r s _ _ (⟨2, (fr : Int) + 1, (fr : Int) + 2 + m, e0⟩ : Ins) _ S6.out.ra (by simp only [RS.lay, RS.put, List.length_append, List.length_map, List.length_singleton, HL2.out]; omega))
            go_wp2_with fail
            refine L1.out.mono ?_
            rintro e wl1 ⟨rfl, vl1, sl1⟩
            have SL1 := Lib.hid (S6.out.trans sl1)
            have OV1 := Lib.hid (own_fr OV.out sl1.fr ONR.out DJ.out)
            clear sl1
            have P2 := Lib.hid (put_own B _ r s _ _ _ al m cl _ SL1.out.ra (by simp only [RS.lay, RS.put, List.length_append, List.length_map, List.length_singleton]; omega) HL2.out OV1.out)
            go_wp2_with fail
            refine P2.out.mono ?_
            rintro e wp2 ⟨rfl, vp2, sp2⟩
            have SP2 := Lib.hid (SL1.out.trans sp2)
            clear sp2

            have L3 := Lib.hid (lay_r B r s _ _ ⟨3, fr, 0, e0⟩ _ SP2.out.ra (by simp only [RS.lay, RS.put, List.length_append, List.length_map, List.length_singleton, HL2.out]; omega))
            go_wp2_with fail
            refine L3.out.mono ?_
            rintro e wl3 ⟨rfl, vl3, sl3⟩
            have SL3 := Lib.hid (SP2.out.trans sl3)
            clear sl3
            go_wp2
            go_end0
            exact ⟨rfl, _, SL3.out⟩
          · have S5 := Lib.hid (S4.out.set (st2 := { X with at_ := p + 2 }) 1 (.int .i64 ((p : Int) + 1 + 1)) rfl (by rw [show ((p : Int) + 1 + 1) = ((p + 2 : Nat) : Int) from by omega]; rfl))
            have CC := Lib.hid (CU.out _ _ _ S5.out.ra rfl)
            go_wp2_with fail
            refine CC.out.mono ?_
            rintro e w4 ⟨vl, v4, rfl, ov, r4, fr4, nb4, dj⟩
            obtain ⟨al, cl, rfl, _⟩ := own_shape ov
            obtain ⟨m, hm⟩ : ∃ m, m = X.L.length - fr := ⟨_, rfl⟩
            have hm3 : m ≤ 30000 := by omega
            have hf3 : fr ≤ 30000 := by have := HFR.out; omega
            rw [show ({ X with at_ := _ } : RS).L.length - fr = m from hm.symm] at ov dj ⊢
            have HM := Lib.hid hm
            have hl2 : ((X.L.drop fr).map (movI (-(fr : Int)))).length = m := by rw [List.length_map, List.length_drop, hm]
            have hl4 : (X.L.take fr).length ≤ 30000 := by rw [List.length_take]; omega
            have hs : S = (((({ X with at_ := p + 2, L := X.L.take fr } : RS).lay (⟨2, (fr : Int) + 2 + m, (fr : Int) + 1, e0⟩ : Ins)).put ((X.L.drop fr).map (movI (-(fr : Int))))).lay ⟨3, fr, 0, e0⟩) := by
              have hby : by_ s X.at_ = 42 := by rw [← HP.out, ← HC.out]; simp at t1; omega
              have hmo : moreF s (X.at_ + 1) 63 = true := by rw [← HP.out]; exact HLZ.out.symm
              rw [HS.out]
              unfold pieceG
              rw [if_neg (by rw [← HP.out, ← HE.out]; simp; omega)]
              simp only [hby, hmo, hl2]
              rw [← HP.out]
              rfl
            subst hs
            have S6 := Lib.hid ((S5.out.trans ⟨r4, fr4, nb4⟩).grow ((Grow.refl w4).alloc (.cells #[.int .i64 2, .int .i64 ((fr : Int) + 2 + m), .int .i64 ((fr : Int) + 1), .string ⟨#[]⟩] 76)))
            have OV := Lib.hid (own_grow ov ((Grow.refl w4).alloc (.cells #[.int .i64 2, .int .i64 ((fr : Int) + 2 + m), .int .i64 ((fr : Int) + 1), .string ⟨#[]⟩] 76)))
            have ONR := Lib.hid (show (Value.slice al m cl).ownBlock ≠ some r from fun e => by have := (ov.lt r e).1; have := S5.out.ra.lt; omega)
            have DJ := Lib.hid dj
            have HL2 := Lib.hid hl2

            clear ov dj hl2 hm r4 fr4 nb4 q0 q1 f1
            have L1 := Lib.hid (lay_r B r s _ _ (⟨2, (fr : Int) + 2 + m, (fr : Int) + 1, e0⟩ : Ins) _ S6.out.ra (by simp only [RS.lay, RS.put, List.length_append, List.length_map, List.length_singleton, HL2.out]; omega))
            go_wp2_with fail
            refine L1.out.mono ?_
            rintro e wl1 ⟨rfl, vl1, sl1⟩
            have SL1 := Lib.hid (S6.out.trans sl1)
            have OV1 := Lib.hid (own_fr OV.out sl1.fr ONR.out DJ.out)
            clear sl1
            have P2 := Lib.hid (put_own B _ r s _ _ _ al m cl _ SL1.out.ra (by simp only [RS.lay, RS.put, List.length_append, List.length_map, List.length_singleton]; omega) HL2.out OV1.out)
            go_wp2_with fail
            refine P2.out.mono ?_
            rintro e wp2 ⟨rfl, vp2, sp2⟩
            have SP2 := Lib.hid (SL1.out.trans sp2)
            clear sp2

            have L3 := Lib.hid (lay_r B r s _ _ ⟨3, fr, 0, e0⟩ _ SP2.out.ra (by simp only [RS.lay, RS.put, List.length_append, List.length_map, List.length_singleton, HL2.out]; omega))
            go_wp2_with fail
            refine L3.out.mono ?_
            rintro e wl3 ⟨rfl, vl3, sl3⟩
            have SL3 := Lib.hid (SP2.out.trans sl3)
            clear sl3
            go_wp2
            go_end0
            exact ⟨rfl, _, SL3.out⟩
        · have n1 : ((c : Int) != 42) = !((c : Int) == 42) := rfl
          have n2 : ((c : Int) != 43) = !((c : Int) == 43) := rfl
          have n3 : ((c : Int) != 63) = !((c : Int) == 63) := rfl
          rw [t1] at n1
          rw [t2] at n2
          rw [t3] at n3
          simp only [Bool.not_true, Bool.not_false] at n1 n2 n3
          rw [← hW0]
          clear hW0
          go_wp2_with fail
          refine MO.out.mono ?_
          rintro e w2 ⟨rfl, nn, rfl⟩
          have q0 := (S3.out.drews nn).ra.c0
          have q1 := (S3.out.drews nn).ra.c1
          have f1 := (S3.out.drews nn).ra.fz 1
          obtain ⟨W2, hW2⟩ : ∃ W2, W2 = (W0.setCell ⟨r, 1, none⟩ (.int .i64 ((p : Int) + 1))).drewN nn := ⟨_, rfl⟩
          rw [← hW2] at q0 q1 f1 ⊢
          have S4 := Lib.hid (S3.out.drews nn)
          rw [← hW2] at S4
          clear hW2 d0 d1
          cases lz
          · have S5 := S4
            have CC := Lib.hid (CU.out _ _ _ S5.out.ra rfl)
            go_wp2_with fail
            refine CC.out.mono ?_
            rintro e w4 ⟨vl, v4, rfl, ov, r4, fr4, nb4, dj⟩
            obtain ⟨al, cl, rfl, _⟩ := own_shape ov
            obtain ⟨m, hm⟩ : ∃ m, m = X.L.length - fr := ⟨_, rfl⟩
            have hm3 : m ≤ 30000 := by omega
            have hf3 : fr ≤ 30000 := by have := HFR.out; omega
            rw [show ({ X with at_ := _ } : RS).L.length - fr = m from hm.symm] at ov dj ⊢
            have HM := Lib.hid hm
            have hl2 : ((X.L.drop fr).map (movI (-(fr : Int)))).length = m := by rw [List.length_map, List.length_drop, hm]
            have hl4 : (X.L.take fr).length ≤ 30000 := by rw [List.length_take]; omega
            have hs : S = ((({ X with at_ := p + 1, L := X.L.take fr } : RS).put ((X.L.drop fr).map (movI (-(fr : Int))))).lay (⟨2, (fr : Int), (fr : Int) + m + 1, e0⟩ : Ins)) := by
              have hby : by_ s X.at_ = 43 := by rw [← HP.out, ← HC.out]; simp at t2; omega
              have hmo : moreF s (X.at_ + 1) 63 = false := by rw [← HP.out]; exact HLZ.out.symm
              rw [HS.out]
              unfold pieceG
              rw [if_neg (by rw [← HP.out, ← HE.out]; simp; omega)]
              simp only [hby, hmo, hl2]
              rw [← HP.out]
              rfl
            subst hs
            have S6 := Lib.hid ((S5.out.trans ⟨r4, fr4, nb4⟩).grow ((Grow.refl w4).alloc (.cells #[.int .i64 2, .int .i64 ((fr : Int)), .int .i64 ((fr : Int) + m + 1), .string ⟨#[]⟩] 76)))
            have OV := Lib.hid (own_grow ov ((Grow.refl w4).alloc (.cells #[.int .i64 2, .int .i64 ((fr : Int)), .int .i64 ((fr : Int) + m + 1), .string ⟨#[]⟩] 76)))
            have ONR := Lib.hid (show (Value.slice al m cl).ownBlock ≠ some r from fun e => by have := (ov.lt r e).1; have := S5.out.ra.lt; omega)
            have DJ := Lib.hid dj
            have HL2 := Lib.hid hl2

            have hb4 := heap_alloc_new w4 (.cells #[.int .i64 2, .int .i64 ((fr : Int)), .int .i64 ((fr : Int) + m + 1), .string ⟨#[]⟩] 76)
            have hr4 : r < w4.heap.size := r4.lt
            have hv4 : v4.ownBlock ≠ some w4.heap.size := fun e => by have := (r4.own.lt _ e).2; omega
            have HB4 := Lib.hid hb4
            clear ov dj hl2 hm r4 fr4 nb4 q0 q1 f1 hb4
            have P1 := Lib.hid (put_own B _ r s _ _ _ al m cl _ S6.out.ra (by simp only [RS.lay, RS.put, List.length_append, List.length_map, List.length_singleton]; omega) HL2.out OV.out)
            go_wp2_with fail
            refine P1.out.mono ?_
            rintro e wp1 ⟨rfl, vp1, sp1⟩
            have SP1 := Lib.hid (S6.out.trans sp1)
            have hb5 := (sp1.fr.block w4.heap.size (by simp) (by omega) (fun e => hv4 e.symm)).trans HB4.out
            have g0 := cell_blk hb5 0
            have g1 := cell_blk hb5 1
            have g2 := cell_blk hb5 2
            have g3 := cell_blk hb5 3
            simp at g0 g1 g2 g3
            clear sp1 hb5
            have L2 := Lib.hid (lay_r B r s _ _ (⟨2, (fr : Int), (fr : Int) + m + 1, e0⟩ : Ins) _ SP1.out.ra (by simp only [RS.lay, RS.put, List.length_append, List.length_map, List.length_singleton, HL2.out]; omega))
            go_wp2_with fail
            refine L2.out.mono ?_
            rintro e wl2 ⟨rfl, vl2, sl2⟩
            have SL2 := Lib.hid (SP1.out.trans sl2)
            clear sl2
            go_wp2
            go_end0
            exact ⟨rfl, _, SL2.out⟩
          · have S5 := Lib.hid (S4.out.set (st2 := { X with at_ := p + 2 }) 1 (.int .i64 ((p : Int) + 1 + 1)) rfl (by rw [show ((p : Int) + 1 + 1) = ((p + 2 : Nat) : Int) from by omega]; rfl))
            have CC := Lib.hid (CU.out _ _ _ S5.out.ra rfl)
            go_wp2_with fail
            refine CC.out.mono ?_
            rintro e w4 ⟨vl, v4, rfl, ov, r4, fr4, nb4, dj⟩
            obtain ⟨al, cl, rfl, _⟩ := own_shape ov
            obtain ⟨m, hm⟩ : ∃ m, m = X.L.length - fr := ⟨_, rfl⟩
            have hm3 : m ≤ 30000 := by omega
            have hf3 : fr ≤ 30000 := by have := HFR.out; omega
            rw [show ({ X with at_ := _ } : RS).L.length - fr = m from hm.symm] at ov dj ⊢
            have HM := Lib.hid hm
            have hl2 : ((X.L.drop fr).map (movI (-(fr : Int)))).length = m := by rw [List.length_map, List.length_drop, hm]
            have hl4 : (X.L.take fr).length ≤ 30000 := by rw [List.length_take]; omega
            have hs : S = ((({ X with at_ := p + 2, L := X.L.take fr } : RS).put ((X.L.drop fr).map (movI (-(fr : Int))))).lay (⟨2, (fr : Int) + m + 1, (fr : Int), e0⟩ : Ins)) := by
              have hby : by_ s X.at_ = 43 := by rw [← HP.out, ← HC.out]; simp at t2; omega
              have hmo : moreF s (X.at_ + 1) 63 = true := by rw [← HP.out]; exact HLZ.out.symm
              rw [HS.out]
              unfold pieceG
              rw [if_neg (by rw [← HP.out, ← HE.out]; simp; omega)]
              simp only [hby, hmo, hl2]
              rw [← HP.out]
              rfl
            subst hs
            have S6 := Lib.hid ((S5.out.trans ⟨r4, fr4, nb4⟩).grow ((Grow.refl w4).alloc (.cells #[.int .i64 2, .int .i64 ((fr : Int) + m + 1), .int .i64 ((fr : Int)), .string ⟨#[]⟩] 76)))
            have OV := Lib.hid (own_grow ov ((Grow.refl w4).alloc (.cells #[.int .i64 2, .int .i64 ((fr : Int) + m + 1), .int .i64 ((fr : Int)), .string ⟨#[]⟩] 76)))
            have ONR := Lib.hid (show (Value.slice al m cl).ownBlock ≠ some r from fun e => by have := (ov.lt r e).1; have := S5.out.ra.lt; omega)
            have DJ := Lib.hid dj
            have HL2 := Lib.hid hl2

            have hb4 := heap_alloc_new w4 (.cells #[.int .i64 2, .int .i64 ((fr : Int) + m + 1), .int .i64 ((fr : Int)), .string ⟨#[]⟩] 76)
            have hr4 : r < w4.heap.size := r4.lt
            have hv4 : v4.ownBlock ≠ some w4.heap.size := fun e => by have := (r4.own.lt _ e).2; omega
            have HB4 := Lib.hid hb4
            clear ov dj hl2 hm r4 fr4 nb4 q0 q1 f1 hb4
            have P1 := Lib.hid (put_own B _ r s _ _ _ al m cl _ S6.out.ra (by simp only [RS.lay, RS.put, List.length_append, List.length_map, List.length_singleton]; omega) HL2.out OV.out)
            go_wp2_with fail
            refine P1.out.mono ?_
            rintro e wp1 ⟨rfl, vp1, sp1⟩
            have SP1 := Lib.hid (S6.out.trans sp1)
            have hb5 := (sp1.fr.block w4.heap.size (by simp) (by omega) (fun e => hv4 e.symm)).trans HB4.out
            have g0 := cell_blk hb5 0
            have g1 := cell_blk hb5 1
            have g2 := cell_blk hb5 2
            have g3 := cell_blk hb5 3
            simp at g0 g1 g2 g3
            clear sp1 hb5
            have L2 := Lib.hid (lay_r B r s _ _ (⟨2, (fr : Int) + m + 1, (fr : Int), e0⟩ : Ins) _ SP1.out.ra (by simp only [RS.lay, RS.put, List.length_append, List.length_map, List.length_singleton, HL2.out]; omega))
            go_wp2_with fail
            refine L2.out.mono ?_
            rintro e wl2 ⟨rfl, vl2, sl2⟩
            have SL2 := Lib.hid (SP1.out.trans sl2)
            clear sl2
            go_wp2
            go_end0
            exact ⟨rfl, _, SL2.out⟩
        · have n1 : ((c : Int) != 42) = !((c : Int) == 42) := rfl
          have n2 : ((c : Int) != 43) = !((c : Int) == 43) := rfl
          have n3 : ((c : Int) != 63) = !((c : Int) == 63) := rfl
          rw [t1] at n1
          rw [t2] at n2
          rw [t3] at n3
          simp only [Bool.not_true, Bool.not_false] at n1 n2 n3
          rw [← hW0]
          clear hW0
          go_wp2_with fail
          refine MO.out.mono ?_
          rintro e w2 ⟨rfl, nn, rfl⟩
          have q0 := (S3.out.drews nn).ra.c0
          have q1 := (S3.out.drews nn).ra.c1
          have f1 := (S3.out.drews nn).ra.fz 1
          obtain ⟨W2, hW2⟩ : ∃ W2, W2 = (W0.setCell ⟨r, 1, none⟩ (.int .i64 ((p : Int) + 1))).drewN nn := ⟨_, rfl⟩
          rw [← hW2] at q0 q1 f1 ⊢
          have S4 := Lib.hid (S3.out.drews nn)
          rw [← hW2] at S4
          clear hW2 d0 d1
          cases lz
          · have S5 := S4
            have CC := Lib.hid (CU.out _ _ _ S5.out.ra rfl)
            go_wp2_with fail
            refine CC.out.mono ?_
            rintro e w4 ⟨vl, v4, rfl, ov, r4, fr4, nb4, dj⟩
            obtain ⟨al, cl, rfl, _⟩ := own_shape ov
            obtain ⟨m, hm⟩ : ∃ m, m = X.L.length - fr := ⟨_, rfl⟩
            have hm3 : m ≤ 30000 := by omega
            have hf3 : fr ≤ 30000 := by have := HFR.out; omega
            rw [show ({ X with at_ := _ } : RS).L.length - fr = m from hm.symm] at ov dj ⊢
            have HM := Lib.hid hm
            have hl2 : ((X.L.drop fr).map (movI (-(fr : Int)))).length = m := by rw [List.length_map, List.length_drop, hm]
            have hl4 : (X.L.take fr).length ≤ 30000 := by rw [List.length_take]; omega
            have hs : S = ((({ X with at_ := p + 1, L := X.L.take fr } : RS).lay (⟨2, (fr : Int) + 1, (fr : Int) + 1 + m, e0⟩ : Ins)).put ((X.L.drop fr).map (movI (-(fr : Int))))) := by
              have hby : by_ s X.at_ = 63 := by rw [← HP.out, ← HC.out]; simp at t3; omega
              have hmo : moreF s (X.at_ + 1) 63 = false := by rw [← HP.out]; exact HLZ.out.symm
              rw [HS.out]
              unfold pieceG
              rw [if_neg (by rw [← HP.out, ← HE.out]; simp; omega)]
              simp only [hby, hmo, hl2]
              rw [← HP.out]
              rfl
            subst hs
            have S6 := Lib.hid ((S5.out.trans ⟨r4, fr4, nb4⟩).grow ((Grow.refl w4).alloc (.cells #[.int .i64 2, .int .i64 ((fr : Int) + 1), .int .i64 ((fr : Int) + 1 + m), .string ⟨#[]⟩] 76)))
            have OV := Lib.hid (own_grow ov ((Grow.refl w4).alloc (.cells #[.int .i64 2, .int .i64 ((fr : Int) + 1), .int .i64 ((fr : Int) + 1 + m), .string ⟨#[]⟩] 76)))
            have ONR := Lib.hid (show (Value.slice al m cl).ownBlock ≠ some r from fun e => by have := (ov.lt r e).1; have := S5.out.ra.lt; omega)
            have DJ := Lib.hid dj
            have HL2 := Lib.hid hl2

            clear ov dj hl2 hm r4 fr4 nb4 q0 q1 f1
            have L1 := Lib.hid (lay_r B r s _ _ (⟨2, (fr : Int) + 1, (fr : Int) + 1 + m, e0⟩ : Ins) _ S6.out.ra (by simp only [RS.lay, RS.put, List.length_append, List.length_map, List.length_singleton, HL2.out]; omega))
            go_wp2_with fail
            refine L1.out.mono ?_
            rintro e wl1 ⟨rfl, vl1, sl1⟩
            have SL1 := Lib.hid (S6.out.trans sl1)
            have OV1 := Lib.hid (own_fr OV.out sl1.fr ONR.out DJ.out)
            clear sl1
            have P2 := Lib.hid (put_own B _ r s _ _ _ al m cl _ SL1.out.ra (by simp only [RS.lay, RS.put, List.length_append, List.length_map, List.length_singleton]; omega) HL2.out OV1.out)
            go_wp2_with fail
            refine P2.out.mono ?_
            rintro e wp2 ⟨rfl, vp2, sp2⟩
            have SP2 := Lib.hid (SL1.out.trans sp2)
            clear sp2

            go_wp2
            go_end0
            exact ⟨rfl, _, SP2.out⟩
          · have S5 := Lib.hid (S4.out.set (st2 := { X with at_ := p + 2 }) 1 (.int .i64 ((p : Int) + 1 + 1)) rfl (by rw [show ((p : Int) + 1 + 1) = ((p + 2 : Nat) : Int) from by omega]; rfl))
            have CC := Lib.hid (CU.out _ _ _ S5.out.ra rfl)
            go_wp2_with fail
            refine CC.out.mono ?_
            rintro e w4 ⟨vl, v4, rfl, ov, r4, fr4, nb4, dj⟩
            obtain ⟨al, cl, rfl, _⟩ := own_shape ov
            obtain ⟨m, hm⟩ : ∃ m, m = X.L.length - fr := ⟨_, rfl⟩
            have hm3 : m ≤ 30000 := by omega
            have hf3 : fr ≤ 30000 := by have := HFR.out; omega
            rw [show ({ X with at_ := _ } : RS).L.length - fr = m from hm.symm] at ov dj ⊢
            have HM := Lib.hid hm
            have hl2 : ((X.L.drop fr).map (movI (-(fr : Int)))).length = m := by rw [List.length_map, List.length_drop, hm]
            have hl4 : (X.L.take fr).length ≤ 30000 := by rw [List.length_take]; omega
            have hs : S = ((({ X with at_ := p + 2, L := X.L.take fr } : RS).lay (⟨2, (fr : Int) + 1 + m, (fr : Int) + 1, e0⟩ : Ins)).put ((X.L.drop fr).map (movI (-(fr : Int))))) := by
              have hby : by_ s X.at_ = 63 := by rw [← HP.out, ← HC.out]; simp at t3; omega
              have hmo : moreF s (X.at_ + 1) 63 = true := by rw [← HP.out]; exact HLZ.out.symm
              rw [HS.out]
              unfold pieceG
              rw [if_neg (by rw [← HP.out, ← HE.out]; simp; omega)]
              simp only [hby, hmo, hl2]
              rw [← HP.out]
              rfl
            subst hs
            have S6 := Lib.hid ((S5.out.trans ⟨r4, fr4, nb4⟩).grow ((Grow.refl w4).alloc (.cells #[.int .i64 2, .int .i64 ((fr : Int) + 1 + m), .int .i64 ((fr : Int) + 1), .string ⟨#[]⟩] 76)))
            have OV := Lib.hid (own_grow ov ((Grow.refl w4).alloc (.cells #[.int .i64 2, .int .i64 ((fr : Int) + 1 + m), .int .i64 ((fr : Int) + 1), .string ⟨#[]⟩] 76)))
            have ONR := Lib.hid (show (Value.slice al m cl).ownBlock ≠ some r from fun e => by have := (ov.lt r e).1; have := S5.out.ra.lt; omega)
            have DJ := Lib.hid dj
            have HL2 := Lib.hid hl2

            clear ov dj hl2 hm r4 fr4 nb4 q0 q1 f1
            have L1 := Lib.hid (lay_r B r s _ _ (⟨2, (fr : Int) + 1 + m, (fr : Int) + 1, e0⟩ : Ins) _ S6.out.ra (by simp only [RS.lay, RS.put, List.length_append, List.length_map, List.length_singleton, HL2.out]; omega))
            go_wp2_with fail
            refine L1.out.mono ?_
            rintro e wl1 ⟨rfl, vl1, sl1⟩
            have SL1 := Lib.hid (S6.out.trans sl1)
            have OV1 := Lib.hid (own_fr OV.out sl1.fr ONR.out DJ.out)
            clear sl1
            have P2 := Lib.hid (put_own B _ r s _ _ _ al m cl _ SL1.out.ra (by simp only [RS.lay, RS.put, List.length_append, List.length_map, List.length_singleton]; omega) HL2.out OV1.out)
            go_wp2_with fail
            refine P2.out.mono ?_
            rintro e wp2 ⟨rfl, vp2, sp2⟩
            have SP2 := Lib.hid (SL1.out.trans sp2)
            clear sp2

            go_wp2
            go_end0
            exact ⟨rfl, _, SP2.out⟩
      · have t1 : ((c : Int) == 42) = false := by simp; omega
        have t2 : ((c : Int) == 43) = false := by simp; omega
        have t3 : ((c : Int) == 63) = false := by simp; omega
        have n1 : ((c : Int) != 42) = true := by rw [bne, t1]; rfl
        have n2 : ((c : Int) != 43) = true := by rw [bne, t2]; rfl
        have n3 : ((c : Int) != 63) = true := by rw [bne, t3]; rfl
        have hS : S = X := by
          rw [HS.out]
          unfold pieceG
          rw [if_neg (by rw [← HP.out, ← HE.out]; simp; omega)]
          simp only [← HP.out, ← HC.out]
          rw [if_neg (by simp; omega)]
        subst hS
        have S2 := Lib.hid (S1.out.drews (nq0 + nq))
        go_wp2
        go_end0
        exact ⟨rfl, v1, S2.out⟩
end Go.Proofs.Ytldcbkememonaaa
