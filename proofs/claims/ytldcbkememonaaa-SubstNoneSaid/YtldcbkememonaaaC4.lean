/-
  The walk of group.
-/
import Derived.Test.YtldcbkememonaaaC3

namespace Go.Proofs.Ytldcbkememonaaa
open Go.RowKit
set_option linter.unusedVariables false
set_option linter.unusedSimpArgs false

/-- 'ways' at every state behind one place -/
def WaysOk (B r : Nat) (s : ByteArray) (wf : RS → RS) (p : Nat) : Prop := ∀ (st : RS) (v : Value) (w : World), RA B r s st v w → Good s st → st.err = 0 → st.deep ≤ 64 → p < st.at_ →
  Calls Try.prog 44 #[.pointer (some ⟨r, 0, none⟩)] w (RPost B r s (wf st) v w)
theorem ext_two (s : ByteArray) (p : Nat) (h : p + 1 < s.size) : ((s.extract p (p + 2)).toList == ([63, 58] : List UInt8)) = (by_ s p == 63 && by_ s (p + 1) == 58) := by
  have h0 : (s.extract p (p + 2)).toList = [s.data.toList.getD p 0, s.data.toList.getD (p + 1) 0] := by
    rw [ByteArray.toList_eq, ByteArray.data_extract, Array.toList_extract]
    have hl : s.data.toList.length = s.size := rfl
    apply List.ext_getElem?
    intro i
    rcases (show i = 0 ∨ i = 1 ∨ 2 ≤ i from by omega) with rfl | rfl | hi
    · simp [List.extract_eq_take_drop, List.getElem?_take, List.getElem?_drop, List.getD_eq_getElem?_getD, List.getElem?_eq_getElem (show p < s.data.toList.length by omega)]
    · simp [List.extract_eq_take_drop, List.getElem?_take, List.getElem?_drop, List.getD_eq_getElem?_getD, List.getElem?_eq_getElem (show p + 1 < s.data.toList.length by omega)]
    · rw [List.getElem?_eq_none (by simp [List.extract_eq_take_drop]; omega), List.getElem?_eq_none (by simpa using hi)]
  rw [h0]
  have e : ∀ (x : UInt8) (n : Nat), n < 256 → ((x == UInt8.ofNat n) = (x.toNat == n)) := fun x n hn => by
    by_cases hx : x.toNat = n
    · have : x = UInt8.ofNat n := by rw [← hx]; simp
      simp [this, hx]; omega
    · have : x ≠ UInt8.ofNat n := fun e => hx (by rw [e]; simp; omega)
      rw [beq_eq_false_iff_ne.mpr this, beq_eq_false_iff_ne.mpr hx]
  have e1 := e (s.data.toList.getD p 0) 63 (by omega)
  have e2 := e (s.data.toList.getD (p + 1) 0) 58 (by omega)
  show ((s.data.toList.getD p 0 == 63) && ((s.data.toList.getD (p + 1) 0 == 58) && true)) = _
  rw [Bool.and_true, show (63 : UInt8) = UInt8.ofNat 63 from rfl, show (58 : UInt8) = UInt8.ofNat 58 from rfl, e1, e2]
  rfl
set_option maxRecDepth 100000 in
set_option maxHeartbeats 4000000 in
theorem group_walk (B r : Nat) (s : ByteArray) (wf : RS → RS) (st : RS) (v : Value) (w : World) (h : RA B r s st v w) (g : Good s st) (he : st.err = 0) (hp : st.at_ < s.size) (hd : st.deep ≤ 64) (hs : s.size ≤ 10000)
    (hw : WfOk s wf st.at_) (WO : WaysOk B r s wf st.at_) :
    Calls Try.prog 55 #[.pointer (some ⟨r, 0, none⟩)] w (RPost B r s (groupF s wf st) v w) := by
  obtain ⟨S, hS⟩ : ∃ S, S = groupF s wf st := ⟨_, rfl⟩
  rw [← hS]
  have HS := Lib.hid hS
  have H := Lib.hid h
  have GG := Lib.hid g
  have HW := Lib.hid hw
  have WW := Lib.hid WO
  have d0 := h.c0
  have d1 := h.c1
  have d2 := h.c2
  have d3 := h.c3
  have d4 := h.c4
  have f1 := h.fz 1
  have f2 := h.fz 2
  have f4 := h.fz 4
  obtain ⟨p, hpp⟩ : ∃ p, p = st.at_ := ⟨_, rfl⟩
  obtain ⟨dp, hdp⟩ : ∃ dp, dp = st.deep := ⟨_, rfl⟩
  obtain ⟨gp, hgp⟩ : ∃ gp, gp = st.grp := ⟨_, rfl⟩
  have hgp2 : gp ≤ p := by rw [hgp, hpp]; exact g.grp
  rw [← hpp] at d1 hp
  rw [← hdp] at d2 hd
  rw [← hgp] at d4
  rw [he] at d3
  have HP := Lib.hid hpp
  have HD := Lib.hid hdp
  have HG := Lib.hid hgp
  have HE := Lib.hid he
  have k0 : (0 : Int) ≤ (p : Int) := by omega
  have k1 : (p : Int) < (s.size : Int) := by omega
  have k2 : (p : Int) ≤ 10000 := by omega
  have k3 : (gp : Int) ≤ 10000 := by omega
  have k4 : (dp : Int) ≤ 64 := by omega
  clear h g hw WO hS hpp hdp hgp he
  go_enter Try.func55, Try.ntmps55
  go_wp2
  cases hq1 : decide (p + 1 + 1 < s.size) with
  | false =>
    have j1 : ¬ (p : Int) + 1 + 1 < (s.size : Int) := by simp at hq1; omega
    have hqv : (decide (p + 1 + 1 < s.size) && by_ s (p + 1) == 63 && by_ s (p + 1 + 1) == 58) = false := by rw [hq1]; rfl
    go_quiet (fail)
    have s1 := (Stp.refl H.out).set (st2 := { st with at_ := p + 1 }) 1 (.int .i64 ((p : Int) + 1)) rfl (by rw [HP.out]; rfl)
    have s2 := (s1.drews nq).set (st2 := { st with at_ := p + 1, grp := gp + 1 }) 4 (.int .i64 ((gp : Int) + 1)) rfl (by rw [HG.out]; rfl)
    have S3 := Lib.hid (s2.set (st2 := ({ st with at_ := p + 1, deep := dp + 1, grp := gp + 1 } : RS)) 2 (.int .i64 ((dp : Int) + 1)) rfl (by rw [HD.out]; rfl))
    have HQ := Lib.hid (show (decide (st.at_ + 1 + 1 < s.size) && by_ s (st.at_ + 1) == 63 && by_ s (st.at_ + 1 + 1) == 58) = false from by rw [← HP.out]; exact hqv)
    clear s1 s2 hqv
    by_cases hdd : dp = 64
    · have j9 : (64 : Int) < (dp : Int) + 1 := by omega
      have HDD := Lib.hid hdd
      clear hdd
      have hS : S = ({ st with at_ := p + 1, deep := dp + 1, grp := gp + 1 } : RS).bad 12 := by
        rw [HS.out]
        unfold groupF
        simp only [HQ.out, Bool.false_eq_true, if_false, if_true]
        rw [← HP.out, ← HD.out, ← HG.out]
        rw [if_pos (by have := HDD.out; omega)]
      subst hS
      have BB := Lib.hid (bad_any B r s _ v 12 _ S3.out.ra)
      go_wp2_with fail
      refine BB.out.mono ?_
      rintro e w5 ⟨rfl, v5, s5⟩
      have S5 := Lib.hid (S3.out.trans s5)
      clear s5
      go_wp2
      go_end0
      exact ⟨rfl, v5, S5.out⟩
    · have j9 : ¬ (64 : Int) < (dp : Int) + 1 := by omega
      have hd63 : dp + 1 ≤ 64 := by omega
      have hd2 : ¬ 64 < dp + 1 := by omega
      obtain ⟨X, hX⟩ : ∃ X, X = wf (({ st with at_ := p + 1, deep := dp + 1, grp := gp + 1 } : RS).lay ⟨4, 2 * ((gp + 1 : Nat) : Int), 0, e0⟩) := ⟨_, rfl⟩
      have AD := Lib.hid (HW.out (({ st with at_ := p + 1, deep := dp + 1, grp := gp + 1 } : RS).lay ⟨4, 2 * ((gp + 1 : Nat) : Int), 0, e0⟩) ⟨by simp only [RS.lay]; omega, by simp only [RS.lay, List.length_append, List.length_singleton]; have := GG.out.len; have := HP.out; omega, by simp [RS.lay], by simp only [RS.lay]; omega, by simp only [RS.lay]; omega⟩ HE.out (by simp only [RS.lay]; omega) (by simp only [RS.lay]; have := HP.out; omega))
      rw [← hX] at AD
      have HX := Lib.hid hX
      have hx6 := AD.out.same
      have HX6 := Lib.hid (show X.err = 0 → X.deep = dp + 1 from hx6)
      have hxs := AD.out.size
      clear hX hx6
      have LY := Lib.hid (lay_r B r s _ v ⟨4, 2 * ((gp + 1 : Nat) : Int), 0, e0⟩ _ S3.out.ra (by have := GG.out.len; have := HP.out; simp only; omega))
      have j8 : (0 : Int) < (gp : Int) + 1 := by omega
      have j7 : (2 : Int) * ((gp : Int) + 1) ≤ 30000 := by omega
      go_wp2_with fail
      refine LY.out.mono ?_
      rintro e w4 ⟨rfl, v4, s4⟩
      have S4 := Lib.hid (S3.out.trans s4)
      clear s4
      have WY := Lib.hid (WW.out (({ st with at_ := p + 1, deep := dp + 1, grp := gp + 1 } : RS).lay ⟨4, 2 * ((gp + 1 : Nat) : Int), 0, e0⟩) _ _ S4.out.ra ⟨by simp only [RS.lay]; omega, by simp only [RS.lay, List.length_append, List.length_singleton]; have := GG.out.len; have := HP.out; omega, by simp [RS.lay], by simp only [RS.lay]; omega, by simp only [RS.lay]; omega⟩ HE.out (by simp only [RS.lay]; omega) (by simp only [RS.lay]; have := HP.out; omega))
      rw [← HX.out] at WY
      go_wp2_with fail
      refine WY.out.mono ?_
      rintro e w5 ⟨rfl, v5, s5⟩
      have S5 := Lib.hid (S4.out.trans s5)
      have y0 := S5.out.ra.c0
      have y1 := S5.out.ra.c1
      have y2 := S5.out.ra.c2
      have y3 := S5.out.ra.c3
      have z1 := S5.out.ra.fz 1
      have z2 := S5.out.ra.fz 2
      obtain ⟨E, hE⟩ : ∃ E, E = X.err := ⟨_, rfl⟩
      rw [← hE] at y3
      have HEE := Lib.hid hE
      clear s5 hE d0 d1 d2 d3 d4 f1 f2 f4
      cases tE : (E != 0) with
      | true =>
        have hS : S = X := by
          rw [HS.out]
          unfold groupF
          simp only [HQ.out, Bool.false_eq_true, if_false, if_true]
          rw [← HP.out, ← HD.out, ← HG.out]
          rw [if_neg hd2, ← HX.out, if_pos (by rw [← HEE.out]; simpa using tE)]
        subst hS
        go_wp2
        go_end0
        exact ⟨rfl, v5, S5.out⟩
      | false =>
        have hE0 : E = 0 := by simpa using tE
        subst hE0
        have hdx := HX6.out HEE.out.symm
        obtain ⟨p2, hp2⟩ : ∃ p2, p2 = X.at_ := ⟨_, rfl⟩
        rw [← hp2] at y1 hxs
        rw [hdx] at y2
        have HP2 := Lib.hid hp2
        have HDX := Lib.hid hdx
        have i0 : (0 : Int) ≤ (p2 : Int) := by omega
        have i2 : (p2 : Int) ≤ 10000 := by omega
        obtain ⟨lz, hlz⟩ : ∃ lz, lz = moreF s X.at_ 41 := ⟨_, rfl⟩
        have MO := Lib.hid (more_any B r s X v5 41 _ S5.out.ra)
        rw [← hlz] at MO
        have HLZ := Lib.hid hlz
        clear hp2 hdx hlz
        go_wp2_with fail
        refine MO.out.mono ?_
        rintro e w6 ⟨rfl, nn, rfl⟩
        have S6 := Lib.hid (S5.out.drews nn)
        cases lz with
        | false =>
          have hS : S = X.bad 8 := by
            rw [HS.out]
            unfold groupF
            simp only [HQ.out, Bool.false_eq_true, if_false, if_true]
            rw [← HP.out, ← HD.out, ← HG.out]
            rw [if_neg hd2, ← HX.out, if_neg (by rw [← HEE.out]; simp), if_pos (by rw [← HLZ.out]; rfl)]
          subst hS
          have BB := Lib.hid (bad_any B r s _ v5 8 _ S6.out.ra)
          go_wp2_with fail
          refine BB.out.mono ?_
          rintro e w7 ⟨rfl, v7, s7⟩
          have S7 := Lib.hid (S6.out.trans s7)
          clear s7
          go_wp2
          go_end0
          exact ⟨rfl, v7, S7.out⟩
        | true =>
          have S7 := Lib.hid (S6.out.set (st2 := { X with at_ := p2 + 1 }) 1 (.int .i64 ((p2 : Int) + 1)) rfl (by rw [HP2.out]; rfl))
          have S8 := Lib.hid (S7.out.set (st2 := { X with at_ := p2 + 1, deep := dp }) 2 (.int .i64 (dp : Int)) rfl rfl)
          have hS : S = ({ X with at_ := p2 + 1, deep := dp } : RS).lay ⟨4, 2 * ((gp + 1 : Nat) : Int) + 1, 0, e0⟩ := by
            rw [HS.out]
            unfold groupF
            simp only [HQ.out, Bool.false_eq_true, if_false, if_true]
            rw [← HP.out, ← HD.out, ← HG.out]
            rw [if_neg hd2, ← HX.out, if_neg (by rw [← HEE.out]; simp), if_neg (by rw [← HLZ.out]; decide), HDX.out, ← HP2.out]
            rfl
          subst hS
          have LZ := Lib.hid (lay_r B r s _ v5 ⟨4, 2 * ((gp + 1 : Nat) : Int) + 1, 0, e0⟩ _ S8.out.ra (by have h1 := AD.out.grow; have := GG.out.len; have := HP.out; have := HP2.out; simp only [RS.lay, List.length_append, List.length_singleton] at h1; show X.L.length ≤ 100000; omega))
          go_wp2_with fail
          refine LZ.out.mono ?_
          rintro e w9 ⟨rfl, v9, s9⟩
          have S9 := Lib.hid (S8.out.trans s9)
          clear s9
          go_wp2
          go_end0
          exact ⟨rfl, v9, S9.out⟩
  | true =>
    have hlt : p + 1 + 1 < s.size := by simpa using hq1
    have j1 : (p : Int) + 1 + 1 < (s.size : Int) := by omega
    have j2 : (0 : Int) ≤ (p : Int) + 1 := by omega
    have j3 : (p : Int) + 1 + 2 ≤ (s.size : Int) := by omega
    have tq := ext_two s (p + 1) (by omega)
    cases hq2 : (by_ s (p + 1) == 63 && by_ s (p + 1 + 1) == 58) with
    | false =>
      rw [hq2] at tq
      have hqv : (decide (p + 1 + 1 < s.size) && by_ s (p + 1) == 63 && by_ s (p + 1 + 1) == 58) = false := by rw [Bool.and_assoc, hq2, Bool.and_false]
      clear hq2
      go_quiet (fail)
      have s1 := (Stp.refl H.out).set (st2 := { st with at_ := p + 1 }) 1 (.int .i64 ((p : Int) + 1)) rfl (by rw [HP.out]; rfl)
      have s2 := (s1.drews nq).set (st2 := { st with at_ := p + 1, grp := gp + 1 }) 4 (.int .i64 ((gp : Int) + 1)) rfl (by rw [HG.out]; rfl)
      have S3 := Lib.hid (s2.set (st2 := ({ st with at_ := p + 1, deep := dp + 1, grp := gp + 1 } : RS)) 2 (.int .i64 ((dp : Int) + 1)) rfl (by rw [HD.out]; rfl))
      have HQ := Lib.hid (show (decide (st.at_ + 1 + 1 < s.size) && by_ s (st.at_ + 1) == 63 && by_ s (st.at_ + 1 + 1) == 58) = false from by rw [← HP.out]; exact hqv)
      clear s1 s2 hqv
      by_cases hdd : dp = 64
      · have j9 : (64 : Int) < (dp : Int) + 1 := by omega
        have HDD := Lib.hid hdd
        clear hdd
        have hS : S = ({ st with at_ := p + 1, deep := dp + 1, grp := gp + 1 } : RS).bad 12 := by
          rw [HS.out]
          unfold groupF
          simp only [HQ.out, Bool.false_eq_true, if_false, if_true]
          rw [← HP.out, ← HD.out, ← HG.out]
          rw [if_pos (by have := HDD.out; omega)]
        subst hS
        have BB := Lib.hid (bad_any B r s _ v 12 _ S3.out.ra)
        go_wp2_with fail
        refine BB.out.mono ?_
        rintro e w5 ⟨rfl, v5, s5⟩
        have S5 := Lib.hid (S3.out.trans s5)
        clear s5
        go_wp2
        go_end0
        exact ⟨rfl, v5, S5.out⟩
      · have j9 : ¬ (64 : Int) < (dp : Int) + 1 := by omega
        have hd63 : dp + 1 ≤ 64 := by omega
        have hd2 : ¬ 64 < dp + 1 := by omega
        obtain ⟨X, hX⟩ : ∃ X, X = wf (({ st with at_ := p + 1, deep := dp + 1, grp := gp + 1 } : RS).lay ⟨4, 2 * ((gp + 1 : Nat) : Int), 0, e0⟩) := ⟨_, rfl⟩
        have AD := Lib.hid (HW.out (({ st with at_ := p + 1, deep := dp + 1, grp := gp + 1 } : RS).lay ⟨4, 2 * ((gp + 1 : Nat) : Int), 0, e0⟩) ⟨by simp only [RS.lay]; omega, by simp only [RS.lay, List.length_append, List.length_singleton]; have := GG.out.len; have := HP.out; omega, by simp [RS.lay], by simp only [RS.lay]; omega, by simp only [RS.lay]; omega⟩ HE.out (by simp only [RS.lay]; omega) (by simp only [RS.lay]; have := HP.out; omega))
        rw [← hX] at AD
        have HX := Lib.hid hX
        have hx6 := AD.out.same
        have HX6 := Lib.hid (show X.err = 0 → X.deep = dp + 1 from hx6)
        have hxs := AD.out.size
        clear hX hx6
        have LY := Lib.hid (lay_r B r s _ v ⟨4, 2 * ((gp + 1 : Nat) : Int), 0, e0⟩ _ S3.out.ra (by have := GG.out.len; have := HP.out; simp only; omega))
        have j8 : (0 : Int) < (gp : Int) + 1 := by omega
        have j7 : (2 : Int) * ((gp : Int) + 1) ≤ 30000 := by omega
        go_wp2_with fail
        refine LY.out.mono ?_
        rintro e w4 ⟨rfl, v4, s4⟩
        have S4 := Lib.hid (S3.out.trans s4)
        clear s4
        have WY := Lib.hid (WW.out (({ st with at_ := p + 1, deep := dp + 1, grp := gp + 1 } : RS).lay ⟨4, 2 * ((gp + 1 : Nat) : Int), 0, e0⟩) _ _ S4.out.ra ⟨by simp only [RS.lay]; omega, by simp only [RS.lay, List.length_append, List.length_singleton]; have := GG.out.len; have := HP.out; omega, by simp [RS.lay], by simp only [RS.lay]; omega, by simp only [RS.lay]; omega⟩ HE.out (by simp only [RS.lay]; omega) (by simp only [RS.lay]; have := HP.out; omega))
        rw [← HX.out] at WY
        go_wp2_with fail
        refine WY.out.mono ?_
        rintro e w5 ⟨rfl, v5, s5⟩
        have S5 := Lib.hid (S4.out.trans s5)
        have y0 := S5.out.ra.c0
        have y1 := S5.out.ra.c1
        have y2 := S5.out.ra.c2
        have y3 := S5.out.ra.c3
        have z1 := S5.out.ra.fz 1
        have z2 := S5.out.ra.fz 2
        obtain ⟨E, hE⟩ : ∃ E, E = X.err := ⟨_, rfl⟩
        rw [← hE] at y3
        have HEE := Lib.hid hE
        clear s5 hE d0 d1 d2 d3 d4 f1 f2 f4
        cases tE : (E != 0) with
        | true =>
          have hS : S = X := by
            rw [HS.out]
            unfold groupF
            simp only [HQ.out, Bool.false_eq_true, if_false, if_true]
            rw [← HP.out, ← HD.out, ← HG.out]
            rw [if_neg hd2, ← HX.out, if_pos (by rw [← HEE.out]; simpa using tE)]
          subst hS
          go_wp2
          go_end0
          exact ⟨rfl, v5, S5.out⟩
        | false =>
          have hE0 : E = 0 := by simpa using tE
          subst hE0
          have hdx := HX6.out HEE.out.symm
          obtain ⟨p2, hp2⟩ : ∃ p2, p2 = X.at_ := ⟨_, rfl⟩
          rw [← hp2] at y1 hxs
          rw [hdx] at y2
          have HP2 := Lib.hid hp2
          have HDX := Lib.hid hdx
          have i0 : (0 : Int) ≤ (p2 : Int) := by omega
          have i2 : (p2 : Int) ≤ 10000 := by omega
          obtain ⟨lz, hlz⟩ : ∃ lz, lz = moreF s X.at_ 41 := ⟨_, rfl⟩
          have MO := Lib.hid (more_any B r s X v5 41 _ S5.out.ra)
          rw [← hlz] at MO
          have HLZ := Lib.hid hlz
          clear hp2 hdx hlz
          go_wp2_with fail
          refine MO.out.mono ?_
          rintro e w6 ⟨rfl, nn, rfl⟩
          have S6 := Lib.hid (S5.out.drews nn)
          cases lz with
          | false =>
            have hS : S = X.bad 8 := by
              rw [HS.out]
              unfold groupF
              simp only [HQ.out, Bool.false_eq_true, if_false, if_true]
              rw [← HP.out, ← HD.out, ← HG.out]
              rw [if_neg hd2, ← HX.out, if_neg (by rw [← HEE.out]; simp), if_pos (by rw [← HLZ.out]; rfl)]
            subst hS
            have BB := Lib.hid (bad_any B r s _ v5 8 _ S6.out.ra)
            go_wp2_with fail
            refine BB.out.mono ?_
            rintro e w7 ⟨rfl, v7, s7⟩
            have S7 := Lib.hid (S6.out.trans s7)
            clear s7
            go_wp2
            go_end0
            exact ⟨rfl, v7, S7.out⟩
          | true =>
            have S7 := Lib.hid (S6.out.set (st2 := { X with at_ := p2 + 1 }) 1 (.int .i64 ((p2 : Int) + 1)) rfl (by rw [HP2.out]; rfl))
            have S8 := Lib.hid (S7.out.set (st2 := { X with at_ := p2 + 1, deep := dp }) 2 (.int .i64 (dp : Int)) rfl rfl)
            have hS : S = ({ X with at_ := p2 + 1, deep := dp } : RS).lay ⟨4, 2 * ((gp + 1 : Nat) : Int) + 1, 0, e0⟩ := by
              rw [HS.out]
              unfold groupF
              simp only [HQ.out, Bool.false_eq_true, if_false, if_true]
              rw [← HP.out, ← HD.out, ← HG.out]
              rw [if_neg hd2, ← HX.out, if_neg (by rw [← HEE.out]; simp), if_neg (by rw [← HLZ.out]; decide), HDX.out, ← HP2.out]
              rfl
            subst hS
            have LZ := Lib.hid (lay_r B r s _ v5 ⟨4, 2 * ((gp + 1 : Nat) : Int) + 1, 0, e0⟩ _ S8.out.ra (by have h1 := AD.out.grow; have := GG.out.len; have := HP.out; have := HP2.out; simp only [RS.lay, List.length_append, List.length_singleton] at h1; show X.L.length ≤ 100000; omega))
            go_wp2_with fail
            refine LZ.out.mono ?_
            rintro e w9 ⟨rfl, v9, s9⟩
            have S9 := Lib.hid (S8.out.trans s9)
            clear s9
            go_wp2
            go_end0
            exact ⟨rfl, v9, S9.out⟩
    | true =>
      rw [hq2] at tq
      have hqv : (decide (p + 1 + 1 < s.size) && by_ s (p + 1) == 63 && by_ s (p + 1 + 1) == 58) = true := by rw [Bool.and_assoc, hq2, hq1]; rfl
      clear hq2
      go_quiet (fail)
      have s1 := (Stp.refl H.out).set (st2 := { st with at_ := p + 1 }) 1 (.int .i64 ((p : Int) + 1)) rfl (by rw [HP.out]; rfl)
      have s2 := (s1.drews nq).set (st2 := { st with at_ := p + 1 + 2 }) 1 (.int .i64 ((p : Int) + 1 + 2)) rfl (by rw [HP.out]; rfl)
      have S3 := Lib.hid (s2.set (st2 := ({ st with at_ := p + 1 + 2, deep := dp + 1, grp := st.grp } : RS)) 2 (.int .i64 ((dp : Int) + 1)) rfl (by rw [HD.out]; rfl))
      have HQ := Lib.hid (show (decide (st.at_ + 1 + 1 < s.size) && by_ s (st.at_ + 1) == 63 && by_ s (st.at_ + 1 + 1) == 58) = true from by rw [← HP.out]; exact hqv)
      clear s1 s2 hqv
      by_cases hdd : dp = 64
      · have j9 : (64 : Int) < (dp : Int) + 1 := by omega
        have HDD := Lib.hid hdd
        clear hdd
        have hS : S = ({ st with at_ := p + 1 + 2, deep := dp + 1, grp := st.grp } : RS).bad 12 := by
          rw [HS.out]
          unfold groupF
          simp only [HQ.out, Bool.false_eq_true, if_false, if_true]
          rw [← HP.out, ← HD.out]
          rw [if_pos (by have := HDD.out; omega)]
        subst hS
        have BB := Lib.hid (bad_any B r s _ v 12 _ S3.out.ra)
        go_wp2_with fail
        refine BB.out.mono ?_
        rintro e w5 ⟨rfl, v5, s5⟩
        have S5 := Lib.hid (S3.out.trans s5)
        clear s5
        go_wp2
        go_end0
        exact ⟨rfl, v5, S5.out⟩
      · have j9 : ¬ (64 : Int) < (dp : Int) + 1 := by omega
        have hd63 : dp + 1 ≤ 64 := by omega
        have hd2 : ¬ 64 < dp + 1 := by omega
        obtain ⟨X, hX⟩ : ∃ X, X = wf ({ st with at_ := p + 1 + 2, deep := dp + 1, grp := st.grp } : RS) := ⟨_, rfl⟩
        have AD := Lib.hid (HW.out ({ st with at_ := p + 1 + 2, deep := dp + 1, grp := st.grp } : RS) ⟨by simp only; omega, by simp only; have := GG.out.len; have := HP.out; omega, GG.out.pos, by simp only; omega, by simp only; have := GG.out.grp; have := HP.out; omega⟩ HE.out (by simp only [RS.lay]; omega) (by simp only [RS.lay]; have := HP.out; omega))
        rw [← hX] at AD
        have HX := Lib.hid hX
        have hx6 := AD.out.same
        have HX6 := Lib.hid (show X.err = 0 → X.deep = dp + 1 from hx6)
        have hxs := AD.out.size
        clear hX hx6
        have S4 := S3
        have WY := Lib.hid (WW.out ({ st with at_ := p + 1 + 2, deep := dp + 1, grp := st.grp } : RS) _ _ S4.out.ra ⟨by simp only; omega, by simp only; have := GG.out.len; have := HP.out; omega, GG.out.pos, by simp only; omega, by simp only; have := GG.out.grp; have := HP.out; omega⟩ HE.out (by simp only [RS.lay]; omega) (by simp only [RS.lay]; have := HP.out; omega))
        rw [← HX.out] at WY
        go_wp2_with fail
        refine WY.out.mono ?_
        rintro e w5 ⟨rfl, v5, s5⟩
        have S5 := Lib.hid (S4.out.trans s5)
        have y0 := S5.out.ra.c0
        have y1 := S5.out.ra.c1
        have y2 := S5.out.ra.c2
        have y3 := S5.out.ra.c3
        have z1 := S5.out.ra.fz 1
        have z2 := S5.out.ra.fz 2
        obtain ⟨E, hE⟩ : ∃ E, E = X.err := ⟨_, rfl⟩
        rw [← hE] at y3
        have HEE := Lib.hid hE
        clear s5 hE d0 d1 d2 d3 d4 f1 f2 f4
        cases tE : (E != 0) with
        | true =>
          have hS : S = X := by
            rw [HS.out]
            unfold groupF
            simp only [HQ.out, Bool.false_eq_true, if_false, if_true]
            rw [← HP.out, ← HD.out]
            rw [if_neg hd2, ← HX.out, if_pos (by rw [← HEE.out]; simpa using tE)]
          subst hS
          go_wp2
          go_end0
          exact ⟨rfl, v5, S5.out⟩
        | false =>
          have hE0 : E = 0 := by simpa using tE
          subst hE0
          have hdx := HX6.out HEE.out.symm
          obtain ⟨p2, hp2⟩ : ∃ p2, p2 = X.at_ := ⟨_, rfl⟩
          rw [← hp2] at y1 hxs
          rw [hdx] at y2
          have HP2 := Lib.hid hp2
          have HDX := Lib.hid hdx
          have i0 : (0 : Int) ≤ (p2 : Int) := by omega
          have i2 : (p2 : Int) ≤ 10000 := by omega
          obtain ⟨lz, hlz⟩ : ∃ lz, lz = moreF s X.at_ 41 := ⟨_, rfl⟩
          have MO := Lib.hid (more_any B r s X v5 41 _ S5.out.ra)
          rw [← hlz] at MO
          have HLZ := Lib.hid hlz
          clear hp2 hdx hlz
          go_wp2_with fail
          refine MO.out.mono ?_
          rintro e w6 ⟨rfl, nn, rfl⟩
          have S6 := Lib.hid (S5.out.drews nn)
          cases lz with
          | false =>
            have hS : S = X.bad 8 := by
              rw [HS.out]
              unfold groupF
              simp only [HQ.out, Bool.false_eq_true, if_false, if_true]
              rw [← HP.out, ← HD.out]
              rw [if_neg hd2, ← HX.out, if_neg (by rw [← HEE.out]; simp), if_pos (by rw [← HLZ.out]; rfl)]
            subst hS
            have BB := Lib.hid (bad_any B r s _ v5 8 _ S6.out.ra)
            go_wp2_with fail
            refine BB.out.mono ?_
            rintro e w7 ⟨rfl, v7, s7⟩
            have S7 := Lib.hid (S6.out.trans s7)
            clear s7
            go_wp2
            go_end0
            exact ⟨rfl, v7, S7.out⟩
          | true =>
            have S7 := Lib.hid (S6.out.set (st2 := { X with at_ := p2 + 1 }) 1 (.int .i64 ((p2 : Int) + 1)) rfl (by rw [HP2.out]; rfl))
            have S8 := Lib.hid (S7.out.set (st2 := { X with at_ := p2 + 1, deep := dp }) 2 (.int .i64 (dp : Int)) rfl rfl)
            have hS : S = ({ X with at_ := p2 + 1, deep := dp } : RS) := by
              rw [HS.out]
              unfold groupF
              simp only [HQ.out, Bool.false_eq_true, if_false, if_true]
              rw [← HP.out, ← HD.out]
              rw [if_neg hd2, ← HX.out, if_neg (by rw [← HEE.out]; simp), if_neg (by rw [← HLZ.out]; decide), HDX.out, ← HP2.out]
              rfl
            subst hS
            go_wp2
            go_end0
            exact ⟨rfl, v5, S8.out⟩
end Go.Proofs.Ytldcbkememonaaa
