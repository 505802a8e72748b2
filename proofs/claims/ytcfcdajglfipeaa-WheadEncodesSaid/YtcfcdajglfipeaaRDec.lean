/-
  The walk of the reference's Decode.
-/
import Derived.Test.YtcfcdajglfipeaaRDecA
import Derived.Deep.CutBlock
namespace Go.Proofs.Ytcfcdajglfipeaa
open Go.RowKit

theorem rdec_short (a : Option Addr) (N c : Nat) (xs : List Value) (w : World) (hN : xs.length = N) (h : N < 16) : Calls Try.prog 19 #[.slice a N c] w (DecPost xs w) := by
  have h' : (N : Int) < 16 := by omega
  have NO : ¬ DecOk xs := fun hd => by have := hd.1; omega
  have HNO := Lib.hid NO
  clear hN h NO
  go_enter Try.func19, Try.ntmps19
  go_wp2
  refine bodyPost_ret (v := .tuple #[.agg #[.int .i64 0, .int .i64 0, .slice none 0 0], .int .i64 2]) (by simp [results, Try.results19, go_sem]) rfl (.inr ⟨HNO.out, rfl, ?_⟩)
  exact (Below.refl _ _).alloc (Nat.le_refl _) _

set_option maxHeartbeats 4000000 in
theorem rdec_long (g o N c : Nat) (xs : List Value) (w : World) (hN : xs.length = N) (hc : N ≤ c) (hs : Src0 xs g o w) (h16 : 16 ≤ N) : Calls Try.prog 19 #[.slice (some ⟨g, o, none⟩) N c] w (DecPost xs w) := by
  subst hN
  have far : g < w.heap.size := (hs.2 0 _ (bv_at hs.1 (by omega))).1
  have HS := Lib.hid hs
  have k8 : (8 : Int) < (c : Int) := by omega
  have k8' : (8 : Int) ≤ (xs.length : Int) := by omega
  have k12 : (12 : Int) < (c : Int) := by omega
  have k12' : (12 : Int) ≤ (xs.length : Int) := by omega
  have k16 : (16 : Int) ≤ (xs.length : Int) := by omega
  have nA := nm_in hs.1 0
  have nX := nm_in hs.1 8
  have nn := nm_in hs.1 12
  clear hs
  go_enter Try.func19, Try.ntmps19
  go_upto_region 3 with fail
  go_cut [4] (fun s4 wx => s4 = .pointer (some ⟨w.heap.size + 1, 0, none⟩) ∧ Hid (SR xs g o c w.heap.size (w.alloc (Obj.cells #[Value.int IntKind.i64 0, Value.int IntKind.i64 0, Value.slice none 0 0] 24)) (.int .i64 (nm xs 0)) (.int .i64 (nm xs 8)) (.slice none 0 0) [] wx))
  case first =>
    go_region_held3 (fun W => Src0 xs g o W) (((repeat (first | (with_reducible exact HS.out) | (with_reducible refine Src0.drew ?_) | (with_reducible refine Src0.drewN ?_ _) | (with_reducible refine Src0.alloc ?_ _) | (with_reducible refine Src0.setc ?_ (by omega)))); done))
      (first
        | (go_at_call_of 27 (Value.slice (some ⟨g, o, none⟩) xs.length c); (with_reducible refine (ffq xs g o o 0 c xs.length _ ?_ (Nat.add_zero _).symm (by omega) (by omega)).mono ?_); (with_reducible assumption); rintro e w' ⟨rfl, n, rfl⟩)
        | (go_at_call 27; (with_reducible refine (ffq xs g o (o + 8) 8 _ _ _ ?_ rfl (by omega) (by omega)).mono ?_); (with_reducible assumption); rintro e w' ⟨rfl, n, rfl⟩))
    all_goals
      go_wp2_with fail
      go_meet
      case rel =>
        rename_i hHeld
        refine ⟨rfl, Lib.hid { src := hHeld, c0 := ?_, c1 := ?_, c2 := ?_, f2 := ?_, own := World.ownsRow_nil _ _ _ _, bel := ?_, sz := ?_, far := fun _ => far, lu := InU.nil }⟩
        · simp [go_sem]
        · simp [go_sem]
        · simp [go_sem]
        · simp [go_sem]
        · (repeat (first | (with_reducible exact Below.refl _ _) | (with_reducible refine Below.drew ?_) | (with_reducible refine below_drewN ?_ _) | (with_reducible refine Below.alloc ?_ (by simp) _) | (with_reducible refine Below.setCell ?_ (by simp) _)))
        · simp
  case rest =>
    obtain ⟨rfl, HSR⟩ := hcut
    have s3 := HSR.out.src
    go_wp2_with fail
    (with_reducible refine (ffq xs g o (o + 12) 12 _ _ _ s3 rfl (by omega) (by omega)).mono ?_)
    rintro e w' ⟨rfl, n, rfl⟩
    have HS4 := Lib.hid (HSR.out.drewN n)
    clear s3 HSR
    obtain ⟨w4, hw4⟩ : ∃ w4, w4 = wc.drewN n := ⟨_, rfl⟩
    rw [← hw4] at HS4 ⊢
    clear hw4
    obtain ⟨W0, hW0⟩ : ∃ W0, W0 = w.alloc (Obj.cells #[Value.int IntKind.i64 0, Value.int IntKind.i64 0, Value.slice none 0 0] 24) := ⟨_, rfl⟩
    have hbw : Below w.heap.size w W0 := by rw [hW0]; exact (Below.refl _ _).alloc (Nat.le_refl _) _
    have hr0 : W0.cell? ⟨w.heap.size, 0, none⟩ = some (.int .i64 0) := by rw [hW0]; simp [go_sem]
    have hr1 : W0.cell? ⟨w.heap.size, 1, none⟩ = some (.int .i64 0) := by rw [hW0]; simp [go_sem]
    have hr2 : W0.cell? ⟨w.heap.size, 2, none⟩ = some (.slice none 0 0) := by rw [hW0]; simp [go_sem]
    have hz0 : W0.frozen? ⟨w.heap.size, 0, none⟩ = false := by rw [hW0]; simp [go_sem]
    have hz1 : W0.frozen? ⟨w.heap.size, 1, none⟩ = false := by rw [hW0]; simp [go_sem]
    have hz2 : W0.frozen? ⟨w.heap.size, 2, none⟩ = false := by rw [hW0]; simp [go_sem]
    rw [← hW0] at HS4
    clear hW0
    obtain ⟨A, hA⟩ : ∃ A, A = nm xs 0 := ⟨_, rfl⟩
    obtain ⟨X, hX⟩ : ∃ X, X = nm xs 8 := ⟨_, rfl⟩
    obtain ⟨Z, hZ⟩ : ∃ Z, Z = nm xs 12 := ⟨_, rfl⟩
    rw [← hA, ← hX] at HS4
    rw [← hA] at nA
    rw [← hX] at nX
    rw [← hZ] at nn ⊢
    have HEQ := Lib.hid (And.intro hA (And.intro hX hZ))
    clear hA hX hZ
    by_cases bad : Z < 1 ∨ 8 < Z ∨ (xs.length : Int) < 16 + 12 * Z
    · have NO : ¬ DecOk xs := fun ⟨d1, d2, d3, d4, _⟩ => by
        rw [← HEQ.out.2.2] at d2 d3 d4
        omega
      have HNO := Lib.hid NO
      have bl := HS4.out.bel
      have r0 := (bl.cell (p := ⟨w.heap.size, 0, none⟩) (by simp)).trans hr0
      have r1 := (bl.cell (p := ⟨w.heap.size, 1, none⟩) (by simp)).trans hr1
      have r2 := (bl.cell (p := ⟨w.heap.size, 2, none⟩) (by simp)).trans hr2
      have g0 := (bl.frozen (p := ⟨w.heap.size, 0, none⟩) (by simp)).trans hz0
      have g1 := (bl.frozen (p := ⟨w.heap.size, 1, none⟩) (by simp)).trans hz1
      have g2 := (bl.frozen (p := ⟨w.heap.size, 2, none⟩) (by simp)).trans hz2
      have BL := Lib.hid (hbw.trans (bl.mono (Nat.le_succ _)))
      clear bl NO
      by_cases b1 : Z < 1
      · clear bad
        go_wp2
        refine bodyPost_ret (v := .tuple #[.agg #[.int .i64 0, .int .i64 0, .slice none 0 0], .int .i64 2]) (by simp [results, Try.results19, go_sem, r0, r1, r2]) rfl (.inr ⟨HNO.out, rfl, ?_⟩)
        exact ((BL.out.setCell (Nat.le_refl _) _).setCell (Nat.le_refl _) _).setCell (Nat.le_refl _) _
      · by_cases b2 : 8 < Z
        · clear bad
          go_wp2
          refine bodyPost_ret (v := .tuple #[.agg #[.int .i64 0, .int .i64 0, .slice none 0 0], .int .i64 2]) (by simp [results, Try.results19, go_sem, r0, r1, r2]) rfl (.inr ⟨HNO.out, rfl, ?_⟩)
          exact ((BL.out.setCell (Nat.le_refl _) _).setCell (Nat.le_refl _) _).setCell (Nat.le_refl _) _
        · have b3 : (xs.length : Int) < 16 + 12 * Z := by omega
          clear bad
          go_wp2
          refine bodyPost_ret (v := .tuple #[.agg #[.int .i64 0, .int .i64 0, .slice none 0 0], .int .i64 2]) (by simp [results, Try.results19, go_sem, r0, r1, r2]) rfl (.inr ⟨HNO.out, rfl, ?_⟩)
          exact ((BL.out.setCell (Nat.le_refl _) _).setCell (Nat.le_refl _) _).setCell (Nat.le_refl _) _
    · obtain ⟨n', rfl⟩ := Int.eq_ofNat_of_zero_le nn.1
      have b1 : ¬ (n' : Int) < 1 := by omega
      have b2 : ¬ 8 < (n' : Int) := by omega
      have b3 : ¬ (xs.length : Int) < 16 + 12 * n' := by omega
      have c1 : n' ≤ 8 := by omega
      have c3 : 16 + 12 * n' ≤ xs.length := by omega
      clear bad
      obtain ⟨j0, hj0, hy0, hy1, hy2⟩ := info_parts Try.info28
      go_wp2
      go_loopg [6] n' (fun k i wr => ∃ l v2, k + l.length = n' ∧ i = .int .i64 (l.length : Nat) ∧ l = arcs xs l.length ∧ Hid (SR xs g o c w.heap.size W0 (.int .i64 A) (.int .i64 X) v2 l wr))
      case atStart => exact ⟨[], _, by simp, rfl, rfl, HS4⟩
      case round =>
        clear HS4
        obtain ⟨l, v2, hkl, rfl, hl, HR⟩ := hrel
        have HL := Lib.hid hl
        have HKL := Lib.hid hkl
        by_cases hlt : l.length < n'
        · obtain ⟨av, cv, hv2, hcv⟩ := own_shape HR.out.own
          subst hv2
          have t0 : (l.length : Int) < n' := by omega
          have t1 : 20 + 12 * l.length + 4 ≤ xs.length := by omega
          have t2 : 24 + 12 * l.length + 4 ≤ xs.length := by omega
          have t3 : 20 + 12 * l.length < c := by omega
          have t4 : 24 + 12 * l.length < c := by omega
          have t5 : (20 : Int) + 12 * l.length ≤ xs.length := by omega
          have t6 : (24 : Int) + 12 * l.length ≤ xs.length := by omega
          have t7 : (20 : Int) + 12 * l.length < c := by omega
          have t8 : (24 : Int) + 12 * l.length < c := by omega
          have c2 := HR.out.c2
          have HSRC := Lib.hid HR.out.src
          have HOWN := Lib.hid HR.out.own
          have hsz : w.heap.size + 1 < wr.heap.size := HR.out.sz
          have mx : l.length + 1 ≤ maxLen := by unfold maxLen; omega
          have hgk : 0 < gk := by omega
          have z1 : IntKind.i64.wrap (12 * (l.length : Int)) = 12 * (l.length : Int) := IntWalk.i64_in _ (by omega)
          have z2 : IntKind.i64.wrap (20 + 12 * (l.length : Int)) = 20 + 12 * (l.length : Int) := IntWalk.i64_in _ (by omega)
          have z3 : IntKind.i64.wrap (24 + 12 * (l.length : Int)) = 24 + 12 * (l.length : Int) := IntWalk.i64_in _ (by omega)
          have z4 : (20 + 12 * (l.length : Int)).toNat = 20 + 12 * l.length := by omega
          have z5 : (24 + 12 * (l.length : Int)).toNat = 24 + 12 * l.length := by omega
          have z6 : (0 : Int) ≤ 20 + 12 * (l.length : Int) := by omega
          have z7 : (0 : Int) ≤ 24 + 12 * (l.length : Int) := by omega
          have z8 : ¬ c = 20 + 12 * l.length := by omega
          have z9 : ¬ c = 24 + 12 * l.length := by omega
          have zA : ∀ (k : Nat) (ob : Obj), ((wr.drewN k).alloc ob).cell? ⟨w.heap.size + 1, 2, none⟩ = some (.slice av l.length cv) := fun k ob => (World.cell?_alloc_lt _ _ _ (by simp; omega)).trans (by simpa using c2)
          clear hl hkl
          go_upto_block 1 with fail
          go_cut [] (fun wx => ∃ v', Hid (SR xs g o c w.heap.size W0 (.int .i64 A) (.int .i64 X) v' (l ++ [arc1 xs l.length]) wx))
          case first =>
            go_wp2_with fail
            go_region_law
              (first
                | (refine step_append_lies _ (by rfl) _ _ _ (by rfl) (w.heap.size + 1 + 1) 28 j0 _ 2 16 Try.underlying22 hj0 hy0 hy1 hy2 rfl (by omega) (.slice av l.length cv) l.length (cells2 l) (by rfl)
                    (((own_below HOWN.out (below_drewN (Grow.refl wr) _))).alloc _) ⟨wr.heap.size, 0, none⟩ 1 1 [.int .i64 (nm xs (20 + 12 * l.length)), .int .i64 (nm xs (24 + 12 * l.length))] (by rfl) (by rfl)
                    (World.news_of_block (cs := #[.int .i64 (nm xs (20 + 12 * l.length)), .int .i64 (nm xs (24 + 12 * l.length))]) (t := 28) (fr := (0, 0)) (heap_alloc_new (wr.drewN _) _)) (by intro u hu; simp at hu; rcases hu with rfl | rfl <;> rfl) (by omega) mx (by omega) (by simp; omega) (wr.heap.size + 1) (by simp) ?_; intro gg8 cp8 w8 hown8 hgrow8 hat8 hlt8; obtain ⟨c8, f8⟩ := (HR.out.drewN _).after hgrow8)
                | (go_simp; go_at_call 27; (with_reducible refine (ffq xs g o _ (20 + 12 * l.length) _ _ _ ?_ ?_ t1 ?_).mono ?_); (repeat (first | (with_reducible exact HSRC.out) | (with_reducible refine Src0.drew ?_) | (with_reducible refine Src0.drewN ?_ _))); (simp only [Nat.add_assoc]); (omega); rintro e w' ⟨rfl, n1, rfl⟩)
                | (go_simp; go_at_call 27; (with_reducible refine (ffq xs g o _ (24 + 12 * l.length) _ _ _ ?_ ?_ t2 ?_).mono ?_); (repeat (first | (with_reducible exact HSRC.out) | (with_reducible refine Src0.drew ?_) | (with_reducible refine Src0.drewN ?_ _))); (simp only [Nat.add_assoc]); (omega); rintro e w' ⟨rfl, n2, rfl⟩))
            all_goals (go_wp2_with fail; go_meet; case rel => exact ⟨_, Lib.hid ((HR.out.drewN _).app (p := arc1 xs l.length) (nm_in HS.out.1 _) (nm_in HS.out.1 _) hown8 hgrow8)⟩)
          case rest =>
            obtain ⟨v', HR'⟩ := hcut
            clear z1 z2 z3 z4 z5 z8 z9 zA
            go_wp2
            go_roundg (gk - 1)
            case measure => omega
            case rel => exact ⟨_, v', by simp; have := HKL.out; omega, by simp, by rw [List.length_append, List.length_singleton, arcs, ← HL.out], HR'⟩
        · obtain rfl : l.length = n' := by have := HKL.out; omega
          obtain ⟨av, cv, hv2, hcv⟩ := own_shape HR.out.own
          subst hv2
          have hdl := hd_own HR.out.own HR.out.lu
          have c0 := HR.out.c0
          have c1' := HR.out.c1
          have c2 := HR.out.c2
          have t0 : ¬ (l.length : Int) < (l.length : Int) := by omega
          clear hl hkl hlt
          by_cases hm : May A X l
          · obtain ⟨b, o', rfl, har⟩ := hdl.2.2.2 (by omega)
            have EN := renc_yes A X b o' l.length cv l wr hdl hm
            have HRB := Lib.hid (hdB_u8 hm)
            have HM := Lib.hid hm
            obtain ⟨K, hK⟩ : ∃ K, K = 16 + 12 * l.length := ⟨_, rfl⟩
            rw [← hK] at EN c3
            have HK := Lib.hid hK
            have EN := Lib.hid EN
            have k1 : (K : Int) ≤ (xs.length : Int) := by omega
            have k2 : (K : Int) ≤ (c : Int) := by omega
            have hxs : RdB xs g o c wr := ⟨HS.out.1, hc, (HR.out.src.2 0 _ (bv_at HS.out.1 (by omega))).1, fun j u hj => (HR.out.src.2 j u hj).2⟩
            have HXS := Lib.hid hxs
            clear har hdl hm hK hxs
            go_wp2_with fail
            refine EN.out.mono ?_
            rintro e w9 ⟨gg, cc, rfl, hown9, b9⟩
            obtain ⟨p0, p1, p2, bl⟩ := HR.out.past b9
            have r0 := (bl.cell (p := ⟨w.heap.size, 0, none⟩) (by simp)).trans hr0
            have r1 := (bl.cell (p := ⟨w.heap.size, 1, none⟩) (by simp)).trans hr1
            have r2 := (bl.cell (p := ⟨w.heap.size, 2, none⟩) (by simp)).trans hr2
            have g0 := (bl.frozen (p := ⟨w.heap.size, 0, none⟩) (by simp)).trans hz0
            have g1 := (bl.frozen (p := ⟨w.heap.size, 1, none⟩) (by simp)).trans hz1
            have g2 := (bl.frozen (p := ⟨w.heap.size, 2, none⟩) (by simp)).trans hz2
            have BL := Lib.hid (hbw.trans (bl.mono (Nat.le_succ _)))
            clear bl
            have cv1 := conv_rd (K := K) (rdB_own hown9 HRB.out (own_cap hown9)) (by rw [hdB_length, HK.out])
            have cv2 := conv_rd (K := K) ((HXS.out.grow b9).take K) (by simp; omega)
            have O9 := Lib.hid (own_below HR.out.own b9)
            obtain ⟨s1, hs1⟩ : ∃ s1, s1 = strOf (hdB A X l) := ⟨_, rfl⟩
            obtain ⟨s2, hs2⟩ : ∃ s2, s2 = strOf (xs.take K) := ⟨_, rfl⟩
            have HEQB := Lib.hid (show eqB (xs.take K) (hdB A X l) = (s2.toList == s1.toList) from by rw [hs1, hs2]; rfl)
            rw [← hs1] at cv1
            rw [← hs2] at cv2
            clear hown9 b9 hs1 hs2
            by_cases he : s2.toList = s1.toList
            · have e1 : (s1.toList == s2.toList) = true := by rw [he]; simp
              have e2 : (s2.toList == s1.toList) = true := by rw [he]; simp
              have YES := Lib.hid (dec_yes (m4 := 4) (bd := false) (l := l) (nn := (l.length : Int)) (A := A) (X := X) (xs := xs) ⟨fun _ => ⟨HEQ.out.1, HEQ.out.2.1, HEQ.out.2.2, rfl, rfl⟩, fun h => by omega⟩ HL.out (by rw [← HK.out]; exact c3) (by omega) (by omega) rfl HM.out (by rw [← HK.out, HEQB.out]; exact e2))
              clear e2 he
              go_wp2
              go_quiet (fail)
              go_wp2
              refine bodyPost_ret (v := .tuple #[.agg #[.int .i64 A, .int .i64 X, .slice (some ⟨b, o', none⟩) l.length cv], .int .i64 0]) (by simp [results, Try.results19, go_sem, r0, r1, r2]) rfl (decpost_yes YES.out ?_ ?_)
              · exact hd_own (ownsRow_setCell_below (ownsRow_setCell_below (ownsRow_setCell_below (own_below O9.out (below_drewN (Grow.refl _) _)) (by simp; omega) _) (by simp; omega) _) (by simp; omega) _) HR.out.lu
              · exact (((below_drewN BL.out _).setCell (Nat.le_refl _) _).setCell (Nat.le_refl _) _).setCell (Nat.le_refl _) _
            · have e1 : (s1.toList == s2.toList) = false := by simp; exact fun h => he h.symm
              have e2 : (s2.toList == s1.toList) = false := by simp; exact he
              have NO := Lib.hid (dec_no (m4 := 4) (bd := false) (bad := false) (l := l) (nn := (l.length : Int)) (A := A) (X := X) (xs := xs) ⟨fun _ => ⟨HEQ.out.1, HEQ.out.2.1, HEQ.out.2.2, rfl, rfl⟩, fun h => by omega⟩ (fun _ => HL.out) (fun h => by cases h) (fun _ _ _ => rfl) (.inr (.inr (by rw [← HK.out, HEQB.out]; exact e2))))
              clear e2 he
              go_wp2
              go_quiet (fail)
              go_wp2
              refine bodyPost_ret (v := .tuple #[.agg #[.int .i64 0, .int .i64 0, .slice none 0 0], .int .i64 2]) (by simp [results, Try.results19, go_sem, r0, r1, r2]) rfl (.inr ⟨NO.out, rfl, ?_⟩)
              exact (((below_drewN BL.out _).setCell (Nat.le_refl _) _).setCell (Nat.le_refl _) _).setCell (Nat.le_refl _) _
          · have EN := Lib.hid (renc_not A X av l.length cv l wr hdl hm)
            have NO := Lib.hid (dec_no (m4 := 4) (bd := false) (bad := false) (l := l) (nn := (l.length : Int)) (A := A) (X := X) (xs := xs) ⟨fun _ => ⟨HEQ.out.1, HEQ.out.2.1, HEQ.out.2.2, rfl, rfl⟩, fun h => by omega⟩ (fun _ => HL.out) (fun h => by cases h) (fun _ _ _ => rfl) (.inl hm))
            clear hdl hm
            go_wp2_with fail
            refine EN.out.mono ?_
            rintro e w9 ⟨rfl, b9⟩
            obtain ⟨p0, p1, p2, bl⟩ := HR.out.past b9
            have r0 := (bl.cell (p := ⟨w.heap.size, 0, none⟩) (by simp)).trans hr0
            have r1 := (bl.cell (p := ⟨w.heap.size, 1, none⟩) (by simp)).trans hr1
            have r2 := (bl.cell (p := ⟨w.heap.size, 2, none⟩) (by simp)).trans hr2
            have g0 := (bl.frozen (p := ⟨w.heap.size, 0, none⟩) (by simp)).trans hz0
            have g1 := (bl.frozen (p := ⟨w.heap.size, 1, none⟩) (by simp)).trans hz1
            have g2 := (bl.frozen (p := ⟨w.heap.size, 2, none⟩) (by simp)).trans hz2
            have BL := Lib.hid (hbw.trans (bl.mono (Nat.le_succ _)))
            clear bl
            clear b9
            go_wp2
            go_quiet (fail)
            go_wp2
            refine bodyPost_ret (v := .tuple #[.agg #[.int .i64 0, .int .i64 0, .slice none 0 0], .int .i64 2]) (by simp [results, Try.results19, go_sem, r0, r1, r2]) rfl (.inr ⟨NO.out, rfl, ?_⟩)
            exact (((below_drewN BL.out _).setCell (Nat.le_refl _) _).setCell (Nat.le_refl _) _).setCell (Nat.le_refl _) _

theorem rdec (a : Option Addr) (N c g o : Nat) (xs : List Value) (w : World) (hN : xs.length = N) (hc : N ≤ c) (hs : Src0 xs g o w) (ha : 0 < N → a = some ⟨g, o, none⟩) : Calls Try.prog 19 #[.slice a N c] w (DecPost xs w) := by
  by_cases h : N < 16
  · exact rdec_short a N c xs w hN h
  · obtain rfl := ha (by omega)
    exact rdec_long g o N c xs w hN hc hs (by omega)
end Go.Proofs.Ytcfcdajglfipeaa
