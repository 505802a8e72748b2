/-
  The walk of pike.Find.
-/
import Derived.Test.YtldcbkememonaaaF5
import Derived.Test.YtldcbkememonaaaPh

namespace Go.Proofs.Ytldcbkememonaaa
open Go.RowKit
set_option linter.unusedVariables false
set_option linter.unusedSimpArgs false

theorem ListAt.mono {B B2 bl mb : Nat} {w : World} {ws : List Way} {S : List Int} {lv : Value} (h : ListAt B w bl ws S lv mb) (hB : B2 ≤ B) : ListAt B2 w bl ws S lv mb := by
  obtain ⟨cs, ho, hc⟩ := h.own
  exact ⟨h.blk, ⟨cs, Joins.ownsRow_le ho hB, hc⟩, h.seen, Nat.le_trans hB h.lo, Nat.le_trans hB h.lm⟩
theorem FV.stay {w w' : World} {v : Value} {o : Option (List Int)} (h : FV w v o) (hs : IntsStay w w') : FV w' v o := by
  cases o with
  | none => exact h
  | some ps => exact hs _ _ h
/-- what Find leaves -/
def FindP (R : Option (List Int)) (w : World) (e : Ending) (w' : World) : Prop := ∃ v, e = .returned (.tuple #[v, .bool R.isSome]) ∧ FV w' v R ∧ Grow w w'
theorem findG_break {L : List Ins} {tx : ByteArray} {nw : List Int} {k : Nat} {S : List Int} {fd : Option (List Int)} (h : fd.isSome = true) : findG L tx nw (k + 1) [] S fd = some fd := by
  cases fd with
  | none => cases h
  | some v => unfold findG; simp
theorem cloneF (fv : Value) (fd : Option (List Int)) (w : World) (h : FV w fv fd) (hn : ∀ ps, fd = some ps → ps.length ≤ 100000) : Calls Try.prog 32 #[fv] w fun e w' => ∃ v', e = .returned v' ∧ FV w' v' fd ∧ Grow w w' := by
  cases fd with
  | none =>
    have e : fv = .slice none 0 0 := h
    subst e
    refine (Try.slices_Clone_int_nil 0 0 w).mono ?_
    rintro e w' ⟨rfl, rfl⟩
    exact ⟨_, rfl, rfl, Grow.refl _⟩
  | some ps =>
    refine (clone_any ps fv w h (hn ps rfl)).mono ?_
    rintro e w' ⟨v', rfl, ho, hb⟩
    exact ⟨v', rfl, Joins.ownsRow_le ho (Nat.zero_le _), hb⟩
set_option maxRecDepth 100000 in
set_option maxHeartbeats 8000000 in
theorem find_any (L : List Ins) (tx : ByteArray) (gr from_ : Int) (R : Option (List Int)) (hR : findF gr L tx from_ = some R) (w : World) (a : Option Addr) (c g o : Nat) (hrd : RdI L g o w) (had : 0 < L.length → a = some ⟨g, o, none⟩) (LO : LOk L) (htx : tx.size ≤ 10000) :
    Calls Try.prog 11 #[.agg #[.int .i64 gr, .slice a L.length c], .string tx, .int .i64 from_] w (FindP R w) := by
  obtain ⟨nL, hnL⟩ : ∃ nL, nL = L.length := ⟨_, rfl⟩
  rw [← hnL]
  have HNL := Lib.hid hnL
  have HRD := Lib.hid hrd
  have HAD := Lib.hid had
  have HLO := Lib.hid LO
  have HR := Lib.hid hR
  clear hnL hrd had LO hR
  have NO : (from_ < 0 ∨ (tx.size : Int) < from_ ∨ gr < 0 ∨ 1024 < gr) → Hid (R = none) := fun h => Lib.hid (by
    have := HR.out
    unfold findF at this
    rw [if_pos h] at this
    injection this with this
    exact this.symm)
  by_cases c1 : from_ < 0
  · have N := NO (.inl c1)
    clear NO
    go_enter Try.func11, Try.ntmps11
    go_wp2
    go_ret2
    exact ⟨_, by rw [N.out]; rfl, by rw [N.out]; rfl, (Grow.refl w).alloc _⟩
  · by_cases c2 : (tx.size : Int) < from_
    · have N := NO (.inr (.inl c2))
      clear NO
      go_enter Try.func11, Try.ntmps11
      go_wp2
      go_ret2
      exact ⟨_, by rw [N.out]; rfl, by rw [N.out]; rfl, (Grow.refl w).alloc _⟩
    · by_cases c3 : gr < 0
      · have N := NO (.inr (.inr (.inl c3)))
        clear NO
        go_enter Try.func11, Try.ntmps11
        go_wp2
        go_ret2
        exact ⟨_, by rw [N.out]; rfl, by rw [N.out]; rfl, (Grow.refl w).alloc _⟩
      · by_cases c4 : 1024 < gr
        · have N := NO (.inr (.inr (.inr c4)))
          clear NO
          go_enter Try.func11, Try.ntmps11
          go_wp2
          go_ret2
          exact ⟨_, by rw [N.out]; rfl, by rw [N.out]; rfl, (Grow.refl w).alloc _⟩
        · clear NO
          obtain ⟨q0, rfl⟩ : ∃ q0 : Nat, from_ = q0 := ⟨from_.toNat, by omega⟩
          obtain ⟨G, rfl⟩ : ∃ G : Nat, gr = G := ⟨gr.toNat, by omega⟩
          have hfg : findG L tx (List.replicate (2 * G + 2) (-1)) (tx.size + 1 - q0) [] [] none = some R := by
            have := HR.out
            unfold findF at this
            rw [if_neg (by omega)] at this
            exact this
          have RP0 := rep_any (-1) (2 * G + 2) (w.heap.size + 1 + 1) (by omega) (by omega) (((w.alloc (.cells #[.int .i64 G, .slice a nL c] 24)).alloc (.cells #[.int .i64 G, .slice a nL c, .string tx] 61)).alloc (.cells #[.int .i64 (-1)] 3)) (by simp [go_sem])
          have e2 : ((2 * G + 2 : Nat) : Int) = 2 * (G : Int) + 2 := by omega
          rw [e2] at RP0
          have RP := Lib.hid RP0
          clear RP0
          obtain ⟨m, hm⟩ : ∃ m, m = 2 * G + 2 := ⟨_, rfl⟩
          rw [← hm] at hfg RP
          have HFG := Lib.hid hfg
          have hm6 : m ≤ 100000 := by omega
          have HM := Lib.hid hm
          clear HR hfg e2 hm
          have hmk := @run_makeMap Try.prog
          go_enter Try.func11, Try.ntmps11
          go_wp2_with fail
          refine RP.out.mono ?_
          rintro e W3 ⟨nv, rfl, hnw, hg3⟩
          obtain ⟨an, cn, hnv⟩ := hnw.shape
          rw [List.length_replicate] at hnv
          subst hnv
          have HNW := Lib.hid hnw
          obtain ⟨bw, hbw⟩ : ∃ bw, bw = w.heap.size + 1 := ⟨_, rfl⟩
          have G03 : Hid (Grow w W3) := Lib.hid ((((Grow.refl w).alloc _).alloc _ |>.alloc _).trans hg3)
          have hz3 : bw < W3.heap.size := by have := Grow.size hg3; simp at this; omega
          have HPA : Hid (ProgAt W3 bw L g o tx G a c) := Lib.hid (by
            refine ⟨?_, HRD.out.grow G03.out, HAD.out⟩
            rw [hbw, Below.block hg3 _ (by simp), Below.heap_alloc _ _ _ (by simp), ← HNL.out]
            exact heap_alloc_two w _ _)
          have hgB : Hid (0 < L.length → g < W3.heap.size) := Lib.hid (fun h => by
            have := (HRD.out.grow G03.out) 0 _ (List.getElem?_eq_getElem h)
            exact this.1)
          have HZ3 := Lib.hid hz3
          rw [← hbw]
          clear RP hnw hg3 hbw hz3
          go_wp2
          obtain ⟨W4, hW4⟩ : ∃ W4, W4 = (W3.alloc (.map #[] 0)).alloc (.cells #[.slice none 0 0, .map (some W3.heap.size)] 67) := ⟨_, rfl⟩
          have LN := Lib.hid (show ListAt W3.heap.size W4 (W3.heap.size + 1) [] [] (.slice none 0 0) W3.heap.size from by rw [hW4]; exact list_new W3)
          have G34 := Lib.hid (show Grow W3 W4 from by rw [hW4]; exact ((Grow.refl W3).alloc _).alloc _)
          rw [← hW4]
          clear hW4 hmk
          go_loopw [10, 11, 12, 13] (fun t10 t11 t12 t13 wr => ∃ (p k : Nat) (b : Bool) (ws : List Way) (S : List Int) (fd : Option (List Int)) (lv : Value) (bl mb : Nat) (fv : Value), Hid (p + k = tx.size + 1) ∧ t10 = .pointer (some ⟨bl, 0, none⟩) ∧ t11 = fv ∧ t12 = .bool b ∧ t13 = .int .i64 p ∧ Hid (fd.isSome = b) ∧
            Hid (ListAt W3.heap.size wr bl ws S lv mb) ∧ Hid (FV wr fv fd) ∧ Hid (Grow W3 wr) ∧ Hid (AOk L m ws S) ∧ Hid (findG L tx (List.replicate m (-1)) k ws S fd = some R) ∧ Hid (∀ ps, fd = some ps → ps.length = m)) (fun _ _ _ t13 _ => tx.size + 1 - (intOf t13).toNat)
          case atStart => exact ⟨q0, tx.size + 1 - q0, false, [], [], none, _, _, _, _, Lib.hid (by omega), rfl, rfl, rfl, rfl, Lib.hid rfl, LN, Lib.hid rfl, G34, Lib.hid (AOk.nil L m), HFG, Lib.hid (fun ps h => by cases h)⟩
          case round =>
            clear LN
            obtain ⟨p, k, b, ws, S, fd, lv, bl, mb, fv, HPK, rfl, rfl, rfl, rfl, HB, HL, HFV, HG, HA, HFN, HPL⟩ := hrel
            by_cases hlt : p ≤ tx.size
            · have k1 : (p : Int) ≤ (tx.size : Int) := by omega
              have k2 : (p : Int) ≤ 10000 := by omega
              obtain ⟨k', HK⟩ : ∃ k', Hid (k = k' + 1) := ⟨k - 1, Lib.hid (by have := HPK.out; omega)⟩
              have hfn := HFN.out
              rw [HK.out] at hfn
              have HRND := Lib.hid (findG_round hfn)
              have HEP : Hid (tx.size - k' = p) := Lib.hid (by have := HPK.out; have := HK.out; omega)
              clear hfn
              have k2n : p ≤ 10000 := by omega
              cases b with
              | true =>
                have hblk := HL.out.blk
                obtain ⟨n, hn⟩ : ∃ n, n = ws.length := ⟨_, rfl⟩
                obtain ⟨al, cl, hlv⟩ : ∃ al cl, lv = .slice al n cl := (by
                  obtain ⟨cs, ho, _⟩ := HL.out.own
                  obtain ⟨al, cl, h, _⟩ := own_shape ho
                  exact ⟨al, cl, by rw [hn]; exact h⟩)
                rw [hlv] at hblk
                have b0 := cell_blk hblk 0
                simp at b0
                have HN := Lib.hid hn
                have HLV := Lib.hid hlv
                have hn6 : n ≤ 1000000 := by have := HA.out.le; have := HA.out.so.len; have := HLO.out.len; omega
                clear hblk hn hlv
                by_cases hn0 : n = 0
                · have hws : ws = [] := List.eq_nil_of_length_eq_zero (by rw [← HN.out]; exact hn0)
                  have hR : R = fd := by
                    have h := HFN.out
                    rw [HK.out, hws, findG_break HB.out] at h
                    injection h with h
                    exact h.symm
                  subst hR
                  subst hn0
                  clear hws HRND
                  have CL := Lib.hid (cloneF _ _ wr HFV.out (fun ps h => by rw [HPL.out ps h]; exact hm6))
                  have HB := HB.out
                  go_wp2_with fail
                  refine CL.out.mono ?_
                  rintro e w5 ⟨v5, rfl, hfv5, hg5⟩
                  have F5 := Lib.hid hfv5
                  have G5 := Lib.hid (G03.out.trans (HG.out.trans hg5))
                  clear hfv5 hg5 CL
                  go_wp2
                  go_ret2
                  exact ⟨v5, by rw [HB]; rfl, F5.out, G5.out⟩
                · have t0 : ((n : Int) == 0) = false := by simp; omega
                  obtain ⟨ws1, hw1⟩ : ∃ ws1, ws1 = ws := ⟨_, rfl⟩
                  have hex : ∃ R2, stepF L tx p ws [] [] = some R2 ∧ findG L tx (List.replicate m (-1)) k' R2.1 R2.2.1 (if R2.2.2.isSome then R2.2.2 else fd) = some R := by
                    rcases HRND.out with ⟨_, h, _⟩ | ⟨ws1, S1, R2, h1, h2, h3⟩
                    · exact absurd (by rw [HN.out, h]; rfl) hn0
                    · rcases h1 with ⟨h1, _⟩ | ⟨_, h1, _⟩
                      · have := HB.out; rw [h1] at this; cases this
                      · rw [h1, HEP.out] at h2
                        exact ⟨R2, h2, h3⟩
                  obtain ⟨R2, hst, hnx⟩ := hex
                  have HST := Lib.hid hst
                  have HNX := Lib.hid hnx
                  have HFV1 := HFV
                  have HL1 := HL
                  obtain ⟨S1, lv1, rfl, rfl⟩ : ∃ S1 lv1, S1 = S ∧ lv1 = lv := ⟨_, _, rfl, rfl⟩
                  subst hw1
                  clear hst hnx HRND
                  have STP := Lib.hid (step_any W3.heap.size m L tx p ws1 S1 R2 HST.out wr bw bl mb g o lv1 G a c (HPA.out.below HG.out HZ3.out hgB.out) HL.out HLO.out HA.out hm6 k2n htx)
                  go_wp2_with fail
                  refine STP.out.mono ?_
                  rintro e w6 ⟨bl2, mb2, lv2, fv2, rfl, hl2, hg2, hf2⟩
                  have HA3 := Lib.hid (stepF_ok L tx p m ws1 [] [] R2 HST.out (AOk.nil L m) (fun y hy => (HA.out.wy y hy).2.2))
                  have HL2 := Lib.hid (hl2.mono (B2 := W3.heap.size) (Grow.size HG.out))
                  have HG2 : Hid (Grow W3 w6) := Lib.hid (Below.trans HG.out (Below.mono hg2 (Grow.size HG.out)))
                  have HF2 := Lib.hid hf2
                  obtain ⟨bm, hbm⟩ : ∃ bm, bm = R2.2.2.isSome := ⟨_, rfl⟩
                  rw [← hbm]
                  have HBM := Lib.hid hbm
                  have HGW := Lib.hid hg2
                  clear hl2 hg2 hf2 hbm STP
                  cases bm with
                  | true =>
                    go_wp2
                    go_roundw
                    case rel => exact ⟨p + 1, k', true, R2.1, R2.2.1, R2.2.2, lv2, bl2, mb2, _, Lib.hid (by have := HPK.out; have := HK.out; omega), rfl, rfl, rfl, by go_num, Lib.hid HBM.out.symm, HL2, HF2, HG2, Lib.hid HA3.out.1, Lib.hid (by have h := HNX.out; rw [if_pos HBM.out.symm] at h; exact h), Lib.hid HA3.out.2⟩
                    case measure => simp [intOf]; omega
                  | false =>
                    go_wp2
                    go_roundw
                    case rel => exact ⟨p + 1, k', _, R2.1, R2.2.1, fd, lv2, bl2, mb2, _, Lib.hid (by have := HPK.out; have := HK.out; omega), rfl, rfl, rfl, by go_num, HB, HL2, Lib.hid (HFV1.out.stay (IntsStay.grow HGW.out)), HG2, Lib.hid HA3.out.1, Lib.hid (by have h := HNX.out; rw [if_neg (by rw [← HBM.out]; simp)] at h; exact h), HPL⟩
                    case measure => simp [intOf]; omega
              | false =>
                have hfd : fd = none := by have := HB.out; cases fd with | none => rfl | some v => cases this
                subst hfd
                have hex : ∃ R1 R2, addsF L tx.size p (fuelA L) [⟨List.replicate m (-1), 0⟩] ws S = some R1 ∧ stepF L tx p R1.1 [] [] = some R2 ∧ findG L tx (List.replicate m (-1)) k' R2.1 R2.2.1 (if R2.2.2.isSome then R2.2.2 else none) = some R := by
                  rcases HRND.out with ⟨h, _⟩ | ⟨ws1, S1, R2, h1, h2, h3⟩
                  · cases h
                  · rcases h1 with ⟨_, h1⟩ | ⟨h1, _⟩
                    · rw [HEP.out] at h1 h2
                      exact ⟨(ws1, S1), R2, h1, h2, h3⟩
                    · cases h1
                obtain ⟨⟨ws1, S1⟩, R2, had, hst, hnx⟩ := hex
                have HAD1 := Lib.hid had
                have HST := Lib.hid hst
                have HNX := Lib.hid hnx
                have HA1 := Lib.hid (addsF_ok L tx.size p m _ _ _ _ _ had HA.out (fun y hy => by simp at hy; subst hy; simp))
                have AD := Lib.hid (adds_low W3.heap.size m L tx p ⟨List.replicate m (-1), 0⟩ ws S (ws1, S1) HAD1.out wr bw bl mb g o lv (.slice an m cn) G a c (HPA.out.below HG.out HZ3.out hgB.out) HZ3.out hgB.out HL.out (HNW.out.grow HG.out) (show (Lit.int .i64 0).wf = true from rfl) HLO.out HA.out (by rw [List.length_replicate]; exact hm6) (by omega) (by omega))
                clear had hst hnx HRND
                go_wp2_with fail
                refine AD.out.mono ?_
                rintro e w5 ⟨rfl, lv1, hl1, hb1, hs1⟩
                have HL1 := Lib.hid hl1
                have HG1 : Hid (Grow W3 w5) := Lib.hid (Below.trans HG.out hb1)
                have HFV1 := Lib.hid (HFV.out.stay hs1)
                clear hl1 hb1 hs1 AD
                have hblk := HL1.out.blk
                obtain ⟨n, hn⟩ : ∃ n, n = ws1.length := ⟨_, rfl⟩
                obtain ⟨al, cl, hlv⟩ : ∃ al cl, lv1 = .slice al n cl := (by
                  obtain ⟨cs, ho, _⟩ := HL1.out.own
                  obtain ⟨al, cl, h, _⟩ := own_shape ho
                  exact ⟨al, cl, by rw [hn]; exact h⟩)
                rw [hlv] at hblk
                have b0 := cell_blk hblk 0
                simp at b0
                have HN := Lib.hid hn
                have HLV := Lib.hid hlv
                have hn6 : n ≤ 1000000 := by have := HA1.out.le; have := HA1.out.so.len; have := HLO.out.len; omega
                clear hblk hn hlv
                have k2n : p ≤ 10000 := by omega
                by_cases hn0 : n = 0
                all_goals
                  have STP := Lib.hid (step_any W3.heap.size m L tx p ws1 S1 R2 HST.out w5 bw bl mb g o lv1 G a c (HPA.out.below HG1.out HZ3.out hgB.out) HL1.out HLO.out HA1.out hm6 k2n htx)
                  first | (have t0 : ((n : Int) == 0) = false := (by simp; omega)) | (have t0 : ((n : Int) == 0) = true := (by simp; omega))
                  go_wp2_with fail
                  refine STP.out.mono ?_
                  rintro e w6 ⟨bl2, mb2, lv2, fv2, rfl, hl2, hg2, hf2⟩
                  have HA3 := Lib.hid (stepF_ok L tx p m ws1 [] [] R2 HST.out (AOk.nil L m) (fun y hy => (HA1.out.wy y hy).2.2))
                  have HL2 := Lib.hid (hl2.mono (B2 := W3.heap.size) (Grow.size HG1.out))
                  have HG2 : Hid (Grow W3 w6) := Lib.hid (Below.trans HG1.out (Below.mono hg2 (Grow.size HG1.out)))
                  have HF2 := Lib.hid hf2
                  obtain ⟨bm, hbm⟩ : ∃ bm, bm = R2.2.2.isSome := ⟨_, rfl⟩
                  rw [← hbm]
                  have HBM := Lib.hid hbm
                  have HGW := Lib.hid hg2
                  clear hl2 hg2 hf2 hbm STP
                  cases bm with
                  | true =>
                    go_wp2
                    go_roundw
                    case rel => exact ⟨p + 1, k', true, R2.1, R2.2.1, R2.2.2, lv2, bl2, mb2, _, Lib.hid (by have := HPK.out; have := HK.out; omega), rfl, rfl, rfl, by go_num, Lib.hid HBM.out.symm, HL2, HF2, HG2, Lib.hid HA3.out.1, Lib.hid (by have h := HNX.out; rw [if_pos HBM.out.symm] at h; exact h), Lib.hid HA3.out.2⟩
                    case measure => simp [intOf]; omega
                  | false =>
                    go_wp2
                    go_roundw
                    case rel => exact ⟨p + 1, k', _, R2.1, R2.2.1, none, lv2, bl2, mb2, _, Lib.hid (by have := HPK.out; have := HK.out; omega), rfl, rfl, rfl, by go_num, HB, HL2, Lib.hid (HFV1.out.stay (IntsStay.grow HGW.out)), HG2, Lib.hid HA3.out.1, Lib.hid (by have h := HNX.out; rw [if_neg (by rw [← HBM.out]; simp)] at h; exact h), HPL⟩
                    case measure => simp [intOf]; omega
            · have k1 : ¬ (p : Int) ≤ (tx.size : Int) := by omega
              have hk0 : k = 0 := by have := HPK.out; omega
              have hfn := HFN.out
              rw [hk0] at hfn
              unfold findG at hfn
              injection hfn with hfn
              subst hfn
              have CL := Lib.hid (cloneF _ _ wr HFV.out (fun ps h => by rw [HPL.out ps h]; exact hm6))
              have HB := HB.out
              subst HB
              clear hk0
              go_wp2_with fail
              refine CL.out.mono ?_
              rintro e w5 ⟨v5, rfl, hfv5, hg5⟩
              have F5 := Lib.hid hfv5
              have G5 := Lib.hid (G03.out.trans (HG.out.trans hg5))
              clear hfv5 hg5 CL
              go_wp2
              go_ret2
              exact ⟨_, rfl, F5.out, G5.out⟩
end Go.Proofs.Ytldcbkememonaaa
