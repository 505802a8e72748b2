/-
  The walk of ways. / atom, piece, row, group, ways: together.
-/
import Derived.Test.YtldcbkememonaaaC4
import Derived.Deep.RegionHeld3
namespace Go.Proofs.Ytldcbkememonaaa
open Go.RowKit
set_option linter.unusedVariables false
set_option linter.unusedSimpArgs false

theorem cellsI_setX (L : List Ins) (j : Nat) (x : Int) (i : Nat) : (cellsI (setX L j x))[i]? = if i = j * 4 + 1 ∧ j < L.length then some (.int .i64 x) else (cellsI L)[i]? := by
  induction L generalizing j i with
  | nil => simp [setX, cellsI]
  | cons a L ih =>
    have hc : ∀ (b : Ins) (M : List Ins), cellsI (b :: M) = insC b ++ cellsI M := fun b M => by simp [cellsI]
    have hlen : ∀ b : Ins, (insC b).length = 4 := fun b => rfl
    cases j with
    | zero =>
      have e : setX (a :: L) 0 x = { a with x := x } :: L := rfl
      rw [e, hc, hc]
      rcases (show i = 0 ∨ i = 1 ∨ i = 2 ∨ i = 3 ∨ 4 ≤ i from by omega) with rfl | rfl | rfl | rfl | hi
      · rfl
      · rfl
      · rfl
      · rfl
      · rw [List.getElem?_append_right (by rw [hlen]; exact hi), List.getElem?_append_right (by rw [hlen]; exact hi), if_neg (by omega)]
        rfl
    | succ j =>
      have e : setX (a :: L) (j + 1) x = a :: setX L j x := rfl
      rw [e, hc, hc]
      by_cases hi : i < 4
      · rw [List.getElem?_append_left (by rw [hlen]; exact hi), List.getElem?_append_left (by rw [hlen]; exact hi), if_neg (by omega)]
      · rw [List.getElem?_append_right (by rw [hlen]; omega), List.getElem?_append_right (by rw [hlen]; omega), hlen, ih]
        have : (i - 4 = j * 4 + 1 ∧ j < L.length) ↔ (i = (j + 1) * 4 + 1 ∧ j + 1 < (a :: L).length) := by simp; omega
        by_cases hh : i - 4 = j * 4 + 1 ∧ j < L.length
        · rw [if_pos hh, if_pos (this.1 hh)]
        · rw [if_neg hh, if_neg (fun h => hh (this.2 h))]
theorem own_setX {w : World} {B n cap g j : Nat} {L : List Ins} (h : w.ownsRow B 76 4 (.slice (some ⟨g, 0, none⟩) n cap) n (cellsI L)) (hl : L.length = n) (hj : j < n) (x : Int) :
    (w.setCell ⟨g, j * 4 + 1, none⟩ (.int .i64 x)).ownsRow B 76 4 (.slice (some ⟨g, 0, none⟩) n cap) n (cellsI (setX L j x)) := by
  have h0 := h.1
  rcases h.2 with ⟨h1, _⟩ | ⟨g', cap', cur, h1, h2, h3, h4, h5, h6, h7⟩
  · cases h1
  · injection h1 with h1 _ hc
    injection h1 with h1
    injection h1 with h1 _ _
    subst h1 hc
    refine ⟨by rw [cellsI_length, setX_len, hl], .inr ⟨g, cap, cur.setIfInBounds (j * 4 + 1) (.int .i64 x), rfl, h2, Go.heap_setCell_same w g (j * 4 + 1) _ _ _ h3, h4, h5, by simpa using h6, ?_⟩⟩
    apply List.ext_getElem?
    intro i
    rw [cellsI_setX, List.getElem?_take, ← h7, List.getElem?_take, Array.getElem?_toList, Array.getElem?_toList, Array.getElem?_setIfInBounds]
    have hb : j * 4 + 1 < n * 4 := by omega
    have hb2 : j * 4 + 1 < cur.size := by rw [h6]; exact Nat.lt_of_lt_of_le hb (Nat.mul_le_mul_right _ h4)
    by_cases hi : i = j * 4 + 1
    · subst hi
      rw [if_pos hb, if_pos rfl, if_pos hb2, if_pos ⟨rfl, by omega⟩]
    · have hi' : ¬ j * 4 + 1 = i := fun e => hi e.symm
      by_cases h8 : i < n * 4
      · simp [h8, hi, hi']
      · simp [h8, hi]
theorem stp_setX {B r : Nat} {s : ByteArray} {v v1 : Value} {w w1 : World} {Z : RS} {g cap j : Nat} (h : Stp B r s v w Z v1 w1) (hv : v1 = .slice (some ⟨g, 0, none⟩) Z.L.length cap) (hj : j < Z.L.length) (x : Int) :
    Stp B r s v w { Z with L := setX Z.L j x } v1 (w1.setCell ⟨g, j * 4 + 1, none⟩ (.int .i64 x)) := by
  have hne : g ≠ r := fun e => h.ra.ne (by rw [hv, ← e]; rfl)
  refine h.trans ⟨⟨?_, ?_, h.ra.rB⟩, ⟨rfl, rfl, rfl, by simp, fun k hk h2 h3 => ?_⟩, NewB.self _ _⟩
  · rw [heap_setCell_other _ _ _ _ (fun e => hne e.symm)]; exact h.ra.blk
  · show World.ownsRow _ _ _ _ _ (setX Z.L j x).length _
    have ho := h.ra.own
    rw [hv] at ho ⊢
    rw [setX_len]
    exact own_setX ho rfl hj x
  · refine heap_setCell_other _ _ _ _ (fun e => h3 ?_)
    have e' : k = g := e
    rw [hv, e']; rfl
set_option maxRecDepth 100000 in
set_option maxHeartbeats 4000000 in
theorem ways_walk (B r : Nat) (s : ByteArray) (n : Nat) (st : RS) (v : Value) (w : World) (h : RA B r s st v w) (g : Good s st) (he : st.err = 0) (hd : st.deep ≤ 64) (hs : s.size ≤ 10000)
    (RO : Calls Try.prog 48 #[.pointer (some ⟨r, 0, none⟩)] w (RPost B r s (rowF s (waysF s n) (s.size + 1) st) v w)) (WO : WaysOk B r s (waysF s n) st.at_) :
    Calls Try.prog 44 #[.pointer (some ⟨r, 0, none⟩)] w (RPost B r s (waysF s (n + 1) st) v w) := by
  obtain ⟨S, hS⟩ : ∃ S, S = waysF s (n + 1) st := ⟨_, rfl⟩
  rw [← hS]
  obtain ⟨X, hX⟩ : ∃ X, X = rowF s (waysF s n) (s.size + 1) st := ⟨_, rfl⟩
  have AD := Lib.hid (rowF_adv s (waysF s n) (s.size + 1) st g hd (fun p _ _ st' g' he' hd' _ => waysF_adv s n st' g' hd' he'))
  rw [← hX] at RO AD
  obtain ⟨fr, hfe⟩ : ∃ fr, fr = st.L.length := ⟨_, rfl⟩
  obtain ⟨a, cap, hv, _⟩ := own_shape h.own
  have c5 := h.c5
  rw [← hfe] at hv
  rw [hv] at c5
  have HS := Lib.hid hS
  have HX := Lib.hid hX
  have HF := Lib.hid hfe
  have GG := Lib.hid g
  have RR := Lib.hid RO
  have WW := Lib.hid WO
  clear hS hX RO WO h g hfe hv
  go_enter Try.func44, Try.ntmps44
  go_wp2_with fail
  refine RR.out.mono ?_
  rintro e w1 ⟨rfl, v1, s1⟩
  have S1 := Lib.hid s1
  have d1 := s1.ra.c1
  have d3 := s1.ra.c3
  have f1 := s1.ra.fz 1
  have hat := AD.out.size
  obtain ⟨p, hpp⟩ : ∃ p, p = X.at_ := ⟨_, rfl⟩
  obtain ⟨E, hE⟩ : ∃ E, E = X.err := ⟨_, rfl⟩
  rw [← hpp] at d1 hat
  rw [← hE] at d3
  have HP := Lib.hid hpp
  have HE := Lib.hid hE
  have k0 : (0 : Int) ≤ (p : Int) := by omega
  have k2 : (p : Int) ≤ 10000 := by omega
  clear s1 hpp hE c5 RR
  cases tE : (E != 0) with
  | true =>
    have hS : S = X := by
      rw [HS.out]
      unfold waysF
      simp only [← HX.out]
      rw [if_pos (Or.inl (by rw [← HE.out]; simpa using tE))]
    subst hS
    go_wp2
    go_end0
    exact ⟨rfl, v1, S1.out⟩
  | false =>
    have hE0 : E = 0 := by simpa using tE
    subst hE0
    obtain ⟨lz, hlz⟩ : ∃ lz, lz = moreF s X.at_ 124 := ⟨_, rfl⟩
    have MO := Lib.hid (more_any B r s X v1 124 _ S1.out.ra)
    rw [← hlz] at MO
    have HLZ := Lib.hid hlz
    clear hlz
    go_wp2_with fail
    refine MO.out.mono ?_
    rintro e w2 ⟨rfl, nn, rfl⟩
    have S2 := Lib.hid (S1.out.drews nn)
    cases lz with
    | false =>
      have hS : S = X := by
        rw [HS.out]
        unfold waysF
        simp only [← HX.out]
        rw [if_pos (Or.inr HLZ.out.symm)]
      subst hS
      go_wp2
      go_end0
      exact ⟨rfl, v1, S2.out⟩
    | true =>
      have hlt := moreF_lt HLZ.out.symm
      rw [← HP.out] at hlt
      have S3 := Lib.hid (S2.out.set (st2 := { X with at_ := p + 1 }) 1 (.int .i64 ((p : Int) + 1)) rfl (by rw [HP.out]; rfl))
      have hfr : fr ≤ X.L.length := by rw [HF.out]; exact AD.out.len
      have hn3 : X.L.length ≤ 30000 := by have h1 := AD.out.grow; have h2 := GG.out.len; have h3 := AD.out.size; omega
      have h0 : 0 < X.L.length := (AD.out.good GG.out).pos
      have CC := Lib.hid (cut_any B r s { X with at_ := p + 1 } v1 fr _ S3.out.ra (by show X.L.length ≤ _; omega) h0 hfr)
      have HFR := Lib.hid hfr
      clear hfr
      go_wp2_with fail
      refine CC.out.mono ?_
      rintro e w4 ⟨vl, v4, rfl, ov, r4, fr4, nb4, dj⟩
      obtain ⟨al, cl, rfl, _⟩ := own_shape ov
      obtain ⟨m, hm⟩ : ∃ m, m = X.L.length - fr := ⟨_, rfl⟩
      have hm3 : m ≤ 30000 := by omega
      have hf3 : fr ≤ 30000 := by have := HFR.out; omega
      rw [show ({ X with at_ := _ } : RS).L.length - fr = m from hm.symm] at ov dj ⊢
      have hl2 : ((X.L.drop fr).map (movI (-(fr : Int)))).length = m := by rw [List.length_map, List.length_drop, hm]
      have hl4 : (X.L.take fr).length = fr := by rw [List.length_take]; have := HFR.out; omega
      have S6 := Lib.hid (S3.out.trans ⟨r4, fr4, nb4⟩)
      have OV := Lib.hid ov
      have ONR := Lib.hid (show (Value.slice al m cl).ownBlock ≠ some r from fun e => by have := (ov.lt r e).1; have := S3.out.ra.lt; omega)
      have DJ := Lib.hid dj
      have HL2 := Lib.hid hl2
      have HL4 := Lib.hid hl4
      have HM := Lib.hid hm
      clear ov dj hl2 hl4 hm r4 fr4 nb4 f1
      have L1 := Lib.hid (lay_r B r s _ _ ⟨2, (fr : Int) + 1, (fr : Int) + 2 + m, e0⟩ _ S6.out.ra (by show (X.L.take fr).length ≤ _; rw [HL4.out]; omega))
      go_wp2_with fail
      refine L1.out.mono ?_
      rintro e wl1 ⟨rfl, vl1, sl1⟩
      have SL1 := Lib.hid (S6.out.trans sl1)
      have OV1 := Lib.hid (own_fr OV.out sl1.fr ONR.out DJ.out)
      clear sl1
      have P2 := Lib.hid (put_own B _ r s _ _ _ al m cl _ SL1.out.ra (by simp only [RS.lay, List.length_append, List.length_singleton, HL4.out]; omega) HL2.out OV1.out)
      go_wp2_with fail
      refine P2.out.mono ?_
      rintro e wp2 ⟨rfl, vp2, sp2⟩
      have SP2 := Lib.hid (SL1.out.trans sp2)
      clear sp2
      obtain ⟨Y0, hY0⟩ : ∃ Y0, Y0 = ((({ X with at_ := p + 1, L := X.L.take fr } : RS).lay ⟨2, (fr : Int) + 1, (fr : Int) + 2 + m, e0⟩).put ((X.L.drop fr).map (movI (-(fr : Int))))) := ⟨_, rfl⟩
      have hy : Y0.L.length = X.L.length + 1 ∧ Y0.at_ = p + 1 ∧ Y0.err = 0 ∧ Y0.deep = X.deep ∧ Y0.grp = X.grp := by
        rw [hY0]
        refine ⟨?_, rfl, HE.out.symm, rfl, rfl⟩
        simp only [RS.lay, RS.put, List.length_append, List.length_map, List.length_drop, List.length_take, List.length_singleton]
        have := HFR.out
        omega
      obtain ⟨y1, y2, y3, y4, y5⟩ := hy
      have SY0 : Hid (Stp B r s v w Y0 vp2 wp2) := Lib.hid (by rw [hY0]; exact SP2.out)
      have HY0 := Lib.hid hY0
      have L3 := Lib.hid (lay_r B r s Y0 vp2 ⟨3, 0, 0, e0⟩ _ SY0.out.ra (by omega))
      obtain ⟨J, hJ⟩ : ∃ J, J = Y0.L.length := ⟨_, rfl⟩
      rw [← hJ] at L3 y1
      have HJ := Lib.hid hJ
      have hdx := AD.out.same HE.out.symm
      have hg1 := AD.out.grp
      have hg2 := AD.out.grow
      have hg3 := GG.out.len
      have hg4 := GG.out.grp
      have hpX := HP.out
      have hga := AD.out.at_
      have gY : Good s (Y0.lay ⟨3, 0, 0, e0⟩) := ⟨by show Y0.at_ ≤ _; omega, by simp only [RS.lay, List.length_append, List.length_singleton]; omega, by simp [RS.lay], by show Y0.deep ≤ _; omega, by show Y0.grp ≤ Y0.at_; omega⟩
      have ADY := Lib.hid (waysF_adv s n (Y0.lay ⟨3, 0, 0, e0⟩) gY (by show Y0.deep ≤ _; omega) y3)
      obtain ⟨Z, hZ⟩ : ∃ Z, Z = waysF s n (Y0.lay ⟨3, 0, 0, e0⟩) := ⟨_, rfl⟩
      have WY := Lib.hid (fun vv ww hra => WW.out (Y0.lay ⟨3, 0, 0, e0⟩) vv ww hra gY y3 (by show Y0.deep ≤ _; omega) (by show st.at_ < Y0.at_; omega))
      rw [← hZ] at ADY WY
      have hS : S = { Z with L := setX Z.L J (Z.L.length : Nat) } := by
        rw [HS.out]
        unfold waysF
        simp only [← HX.out]
        rw [if_neg (by rw [← HE.out, ← HLZ.out]; simp)]
        rw [hZ, HJ.out, HY0.out, ← HF.out, ← HP.out, ← HL2.out]
      subst hS
      have hJZ : J < Z.L.length := by
        have h1 := ADY.out.len
        simp only [RS.lay, List.length_append, List.length_singleton] at h1
        omega
      have hZ3 : Z.L.length ≤ 60000 := by
        have h1 := ADY.out.grow
        have h2 := ADY.out.size
        simp only [RS.lay, List.length_append, List.length_singleton] at h1
        omega
      clear hY0 hJ y1 y2 y3 y4 y5 hdx hg1 hg2 hg3 hg4 hpX hga gY hZ
      go_wp2_with fail
      refine L3.out.mono ?_
      rintro e wl3 ⟨rfl, vl3, sl3⟩
      have SL3 := Lib.hid (SY0.out.trans sl3)
      clear sl3
      go_wp2_with fail
      refine (WY.out _ _ SL3.out.ra).mono ?_
      rintro e w9 ⟨rfl, v9, s9⟩
      have S9 := Lib.hid (SL3.out.trans s9)
      obtain ⟨gz, cz, hvz, _, hgz⟩ := s9.ra.own.form (by omega)
      obtain ⟨nz, hnz⟩ : ∃ nz, nz = Z.L.length := ⟨_, rfl⟩
      have z5 := s9.ra.c5
      rw [hvz, ← hnz] at z5
      have HNZ := Lib.hid hnz
      have own9 := s9.ra.own
      rw [hvz, ← hnz] at own9
      have hcell : ∃ u, w9.cell? ⟨gz, J * 4 + 1, none⟩ = some u := by
        have := World.ownsRow.cellAt own9 (J * 4 + 1) (by omega)
        rw [this]
        exact ⟨_, List.getElem?_eq_getElem (by rw [cellsI_length]; omega)⟩
      obtain ⟨uz, huz⟩ := hcell
      have fz : w9.frozen? ⟨gz, J * 4 + 1, none⟩ = false := by
        rcases own9.2 with ⟨h1, _⟩ | ⟨g', cap', cur, h1, _, h3, _⟩
        · cases h1
        · injection h1 with h1 _ _
          injection h1 with h1
          injection h1 with h1 _ _
          subst h1
          exact froz_blk h3 _
      have FIN := Lib.hid (stp_setX S9.out hvz hJZ (Z.L.length : Nat))
      have j0 : (0 : Int) ≤ (J : Int) := by omega
      have j1 : (J : Int) < (nz : Int) := by omega
      have HVZ := Lib.hid hvz
      clear s9 own9 hvz hnz hJZ hZ3
      go_wp2
      have hne : gz ≠ r := fun e => S9.out.ra.ne (by rw [HVZ.out, ← e]; rfl)
      have kz : ∀ u, (w9.setCell ⟨gz, J * 4 + 1, none⟩ u).cell? ⟨r, 5, none⟩ = some (.slice (some ⟨gz, 0, none⟩) nz cz) := fun u => by
        rw [World.cell?_setCell_other _ _ _ _ (by simp <;> omega)]; exact z5
      have KZ := Lib.hid kz
      clear kz
      go_region_held3 (fun w' => w'.cell? ⟨r, 5, none⟩ = some (.slice (some ⟨gz, 0, none⟩) nz cz)) (first | go_keep | exact KZ.out _) (fail)
      have hnz2 : ((Z.L.length : Nat) : Int) = (nz : Int) := by rw [HNZ.out]
      have F1 := FIN.out
      rw [hnz2] at F1
      have FIN1 := Lib.hid F1
      have FIN2 := Lib.hid (F1.grow ((Grow.refl _).drew))
      have E2 : setX Z.L J (Z.L.length : Nat) = setX Z.L J nz := by rw [hnz2]
      rw [E2]
      clear F1
      go_end0
      first | exact ⟨rfl, v9, FIN1.out⟩ | exact ⟨rfl, v9, FIN2.out⟩
end Go.Proofs.Ytldcbkememonaaa

namespace Go.Proofs.Ytldcbkememonaaa
open Go.RowKit
set_option linter.unusedVariables false
set_option linter.unusedSimpArgs false

theorem atom_any (B r : Nat) (s : ByteArray) (wf : RS → RS) (st : RS) (v : Value) (w : World) (h : RA B r s st v w) (g : Good s st) (he : st.err = 0) (hp : st.at_ < s.size) (hd : st.deep ≤ 64) (hs : s.size ≤ 10000)
    (SO : SetOk s) (hw : WfOk s wf st.at_) (WO : WaysOk B r s wf st.at_) : Calls Try.prog 54 #[.pointer (some ⟨r, 0, none⟩)] w (RPost B r s (atomF s wf st) v w) := by
  have hn : st.L.length ≤ 100000 := by have := g.len; omega
  by_cases h40 : by_ s st.at_ = 40
  · have e : atomF s wf st = groupF s wf st := by unfold atomF; simp [h40]
    rw [e]
    exact atom_group B r s st _ v w h hp hs h40 (fun w' hg => group_walk B r s wf st v w' (h.grow hg) g he hp hd hs hw WO)
  · by_cases h94 : by_ s st.at_ = 94
    · have e : atomF s wf st = ({ st with at_ := st.at_ + 1 } : RS).lay ⟨5, 0, 0, e0⟩ := by unfold atomF; simp [h94]
      rw [e]
      exact atom_one B r s st v w h hp hs hn 94 5 h94 (.inl ⟨rfl, rfl⟩)
    · by_cases h36 : by_ s st.at_ = 36
      · have e : atomF s wf st = ({ st with at_ := st.at_ + 1 } : RS).lay ⟨6, 0, 0, e0⟩ := by unfold atomF; simp [h36]
        rw [e]
        exact atom_one B r s st v w h hp hs hn 36 6 h36 (.inr ⟨rfl, rfl⟩)
      · have e : atomF s wf st = (match setF s st.at_ with
            | (none, q) => ({ st with at_ := q } : RS).bad 8
            | (some m, q) => ({ st with at_ := q } : RS).lay ⟨1, 0, 0, bs (pairsOf m)⟩) := by
          unfold atomF
          simp only
          rw [if_neg (by simpa using h40), if_neg (by simpa using h94), if_neg (by simpa using h36)]
          cases setF s st.at_ with
          | mk o q => cases o <;> rfl
        rw [e]
        exact atom_set B r s st v w h hp hs hn ⟨h40, h94, h36⟩ SO
theorem piece_ok (B r : Nat) (s : ByteArray) (wf : RS → RS) (p : Nat) (hs : s.size ≤ 10000) (SO : SetOk s) (hw : ∀ q, p ≤ q → q < s.size → WfOk s wf q) (WO : WaysOk B r s wf p) : PieceOk B r s wf p := by
  intro st v w h g he hlt hd hp
  have AD := atomF_adv s wf st g he hlt hd (hw _ hp hlt)
  have AT := atom_any B r s wf st v w h g he hlt hd hs SO (hw _ hp hlt) (fun st' v' w' h' g' he' hd' hp' => WO st' v' w' h' g' he' hd' (by omega))
  rw [pieceF_eq]
  have h1 := AD.1.grow
  have h2 := AD.1.size
  have h3 := g.len
  have h4 := g.pos
  have h5 := AD.1.len
  exact piece_walk B r s st (atomF s wf st) v w h hs h2 h5 (by omega) (by omega) AT
theorem ways_ok (B r : Nat) (s : ByteArray) (hs : s.size ≤ 10000) (SO : SetOk s) : ∀ (n : Nat) (st : RS) (v : Value) (w : World), RA B r s st v w → Good s st → st.err = 0 → st.deep ≤ 64 → s.size - st.at_ < n →
    Calls Try.prog 44 #[.pointer (some ⟨r, 0, none⟩)] w (RPost B r s (waysF s n st) v w)
  | 0, _, _, _, _, _, _, _, hn => absurd hn (by omega)
  | n + 1, st, v, w, h, g, he, hd, hn => by
    have hw : ∀ q, st.at_ ≤ q → q < s.size → WfOk s (waysF s n) q := fun _ _ _ st' g' he' hd' _ => waysF_adv s n st' g' hd' he'
    have WO : WaysOk B r s (waysF s n) st.at_ := fun st' v' w' h' g' he' hd' hp' => ways_ok B r s hs SO n st' v' w' h' g' he' hd' (by have := g'.at_; omega)
    exact ways_walk B r s n st v w h g he hd hs (row_walk B r s (waysF s n) st v w h g hd hs hw (piece_ok B r s (waysF s n) st.at_ hs SO hw WO)) WO
end Go.Proofs.Ytldcbkememonaaa
