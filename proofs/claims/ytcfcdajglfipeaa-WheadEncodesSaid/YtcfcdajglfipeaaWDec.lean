/-
  The walk of whead.Decode.
-/
import Derived.Test.YtcfcdajglfipeaaDec2
import Derived.Deep.RegionLaw
namespace Go.Proofs.Ytcfcdajglfipeaa
open Go.RowKit

set_option maxHeartbeats 4000000 in
theorem wdec (a : Option Addr) (N c g o : Nat) (xs : List Value) (w : World) (hN : xs.length = N) (hc : N ≤ c) (hs : Src0 xs g o w) (ha : 0 < N → a = some ⟨g, o, none⟩) :
    Calls Try.prog 17 #[.slice a N c] w (DecPost xs w) := by
  subst hN
  have far : xs ≠ [] → g < w.heap.size := fun hne => by
    obtain ⟨x, r, rfl⟩ := List.exists_cons_of_ne_nil hne
    exact (hs.2 0 x (by simp)).1
  have s0 : St xs g o c w.heap.size (((w.alloc (Obj.cells #[Value.int IntKind.i64 0, Value.int IntKind.i64 0, Value.slice none 0 0] 24)).alloc (Obj.cells #[Value.slice a xs.length c, Value.bool false] 51)).alloc (Obj.cells #[Value.int IntKind.i64 0, Value.int IntKind.i64 0, Value.slice none 0 0] 24)) 0 false (.int .i64 0) (.int .i64 0) (.slice none 0 0) []
      (((w.alloc (Obj.cells #[Value.int IntKind.i64 0, Value.int IntKind.i64 0, Value.slice none 0 0] 24)).alloc (Obj.cells #[Value.slice a xs.length c, Value.bool false] 51)).alloc (Obj.cells #[Value.int IntKind.i64 0, Value.int IntKind.i64 0, Value.slice none 0 0] 24)) :=
    { src := hs.grow (((Below.refl _ _).alloc (Nat.le_refl _) _).alloc (by simp) _ |>.alloc (by simp; omega) _), rd := ⟨by simp [go_sem], by simp [go_sem], by simp [go_sem], by simp, a, by simp [go_sem], fun h => by simpa using ha (by omega)⟩
      c0 := by simp [go_sem], c1 := by simp [go_sem], c2 := by simp [go_sem], f0 := by simp [go_sem], f1 := by simp [go_sem], f2 := by simp [go_sem]
      own := World.ownsRow_nil _ _ _ _, bel := Below.refl _ _, sz := by simp, far := far, lu := InU.nil, xc := hc }
  have hu := hs.1
  have HU := Lib.hid hu
  have S0 := Lib.hid s0
  have FAR := Lib.hid far
  have HA := Lib.hid ha
  clear hs ha s0 hu far
  go_enter Try.func17, Try.ntmps17
  go_wp2_with fail
  refine (num_st S0.out).mono ?_
  rintro e w1 ⟨rfl, s1⟩
  have c0 := s1.c0
  have f0 := s1.f0
  have S1 := Lib.hid (s1.set0 (.int .i64 (nv xs 0)))
  clear s1 S0
  go_wp2_with fail
  clear c0 f0
  refine (num_st S1.out).mono ?_
  rintro e w2 ⟨rfl, s2⟩
  have S2 := Lib.hid s2
  clear s2 S1
  go_wp2_with fail
  refine (num_st S2.out).mono ?_
  rintro e w3 ⟨rfl, s3⟩
  have c1 := s3.c1
  have f1 := s3.f1
  have S3 := Lib.hid (s3.set1 (.int .i64 (nv xs (nxt xs (nxt xs 0)))))
  clear s3 S2
  go_wp2_with fail
  clear c1 f1
  refine (num_st S3.out).mono ?_
  rintro e w4 ⟨rfl, s4⟩
  have S4 := Lib.hid s4
  clear s4 S3
  go_wp2_with fail
  obtain ⟨W0, hW0⟩ : ∃ W0, W0 = (((w.alloc (Obj.cells #[Value.int IntKind.i64 0, Value.int IntKind.i64 0, Value.slice none 0 0] 24)).alloc (Obj.cells #[Value.slice a xs.length c, Value.bool false] 51)).alloc (Obj.cells #[Value.int IntKind.i64 0, Value.int IntKind.i64 0, Value.slice none 0 0] 24)) := ⟨_, rfl⟩
  have hbw : Below w.heap.size w W0 := by rw [hW0]; exact ((Below.refl _ _).alloc (Nat.le_refl _) _).alloc (by simp) _ |>.alloc (by simp; omega) _
  have hr0 : W0.cell? ⟨w.heap.size, 0, none⟩ = some (.int .i64 0) := by rw [hW0]; simp [go_sem]
  have hr1 : W0.cell? ⟨w.heap.size, 1, none⟩ = some (.int .i64 0) := by rw [hW0]; simp [go_sem]
  have hr2 : W0.cell? ⟨w.heap.size, 2, none⟩ = some (.slice none 0 0) := by rw [hW0]; simp [go_sem]
  have hz0 : W0.frozen? ⟨w.heap.size, 0, none⟩ = false := by rw [hW0]; simp [go_sem]
  have hz1 : W0.frozen? ⟨w.heap.size, 1, none⟩ = false := by rw [hW0]; simp [go_sem]
  have hz2 : W0.frozen? ⟨w.heap.size, 2, none⟩ = false := by rw [hW0]; simp [go_sem]
  rw [← hW0] at S4
  clear hW0
  have F4 := Lib.hid (first4 xs)
  obtain ⟨A, hA⟩ : ∃ A, A = nv xs 0 := ⟨_, rfl⟩
  obtain ⟨X, hX⟩ : ∃ X, X = nv xs (nxt xs (nxt xs 0)) := ⟨_, rfl⟩
  obtain ⟨nn, hnn⟩ : ∃ nn, nn = nv xs (nxt xs (nxt xs (nxt xs 0))) := ⟨_, rfl⟩
  obtain ⟨m4, hm4⟩ : ∃ m4, m4 = nxt xs (nxt xs (nxt xs (nxt xs 0))) := ⟨_, rfl⟩
  obtain ⟨bd, hbd⟩ : ∃ bd, bd = nb xs (nxt xs (nxt xs (nxt xs 0))) (nb xs (nxt xs (nxt xs 0)) (nb xs (nxt xs 0) (nb xs 0 false))) := ⟨_, rfl⟩
  have uA : 0 ≤ A ∧ A ≤ 4294967295 := hA ▸ nv_in HU.out _
  have uX : 0 ≤ X ∧ X ≤ 4294967295 := hX ▸ nv_in HU.out _
  have un : 0 ≤ nn ∧ nn ≤ 4294967295 := hnn ▸ nv_in HU.out _
  rw [← hA, ← hX, ← hm4, ← hbd] at S4
  rw [← hA, ← hX, ← hnn, ← hm4, ← hbd] at F4
  rw [← hA, ← hX, ← hnn]
  clear hA hX hnn hm4 hbd
  have L0 : LRel xs g o c w.heap.size W0 A X nn w4 := by
    refine ⟨m4, bd, _, [], S4.out, fun h => ?_, fun h => absurd rfl h, fun h => ?_⟩
    · by_cases h16 : 16 ≤ xs.length
      · obtain ⟨_, _, _, q, _⟩ := F4.out.1 h16
        exact ⟨q, h16, rfl⟩
      · have := (F4.out.2 (by omega)).2
        rw [h] at this; cases this
    · by_cases h16 : 16 ≤ xs.length
      · obtain ⟨_, _, _, _, q⟩ := F4.out.1 h16
        rw [h] at q; cases q
      · left; omega
  have HL0 := Lib.hid L0
  clear L0 S4
  obtain ⟨j0, hj0, hy0, hy1, hy2⟩ := info_parts Try.info28
  go_loopw [7] (fun _ wr => LRel xs g o c w.heap.size W0 A X nn wr) (fun _ wr => 9 - lenAt wr (w.heap.size + 1 + 1) 2)
  case atStart => exact HL0.out
  case round =>
    clear HL0
    obtain ⟨m, bad, v2, l, st, hb, hl, hbt⟩ := hrel
    obtain ⟨av, cv, hv2, hcv⟩ := own_shape st.own
    subst hv2
    have HB := Lib.hid hb
    have HL := Lib.hid hl
    have HBT := Lib.hid hbt
    have ST := Lib.hid st
    have c2 := st.c2
    have k1 := st.rd.1
    clear st hb hl hbt
    by_cases go : 1 ≤ nn ∧ nn ≤ 8 ∧ bad = false ∧ (l.length : Int) < nn
    · obtain ⟨n1, n8, rfl, hk⟩ := go
      obtain ⟨hm, h16, hlk⟩ := HB.out rfl
      have N3 := Lib.hid (next3 xs l.length m hm h16)
      have HLK := Lib.hid hlk
      clear hm hlk HB
      go_wp2_with fail
      refine (num_st ST.out).mono ?_
      rintro e w5 ⟨rfl, s5⟩
      have S5 := Lib.hid s5
      clear s5 c2 k1
      go_wp2_with fail
      refine (num_st S5.out).mono ?_
      rintro e w6 ⟨rfl, s6⟩
      have S6 := Lib.hid s6
      have c2 := s6.c2
      clear s6 S5
      obtain ⟨S, hS⟩ : ∃ S, S = nv xs (nxt xs m) := ⟨_, rfl⟩
      obtain ⟨C, hC⟩ : ∃ C, C = nv xs (nxt xs (nxt xs m)) := ⟨_, rfl⟩
      have uS : 0 ≤ S ∧ S ≤ 4294967295 := hS ▸ nv_in HU.out _
      have uC : 0 ≤ C ∧ C ≤ 4294967295 := hC ▸ nv_in HU.out _
      have NUM := Lib.hid (num_st S6.out.drew)
      rw [← hC] at NUM N3
      rw [← hS] at N3
      go_wp2
      rw [← hS]
      clear hS hC
      have mx : l.length + 1 ≤ maxLen := by unfold maxLen; omega
      have HS6 := Lib.hid S6.out.sz
      have q2 : w6.drew.cell? ⟨w.heap.size + 1 + 1, 2, none⟩ = some (.slice av l.length cv) := by simpa using c2
      go_region_law
        (first
          | (go_simp; go_at_call 25; refine NUM.out.mono ?_; rintro e w7 ⟨rfl, s7⟩; have c7 := s7.c2; have z7 := Nat.lt_of_succ_le s7.sz)
          | (refine step_append_lies _ (by rfl) _ _ _ (by rfl) (w.heap.size + 1 + 1 + 1) 28 j0 _ 2 16 Try.underlying22 hj0 hy0 hy1 hy2 rfl (by omega) (.slice av l.length cv) l.length (cells2 l) (by rfl)
              (s7.own.alloc _) ⟨w7.heap.size, 0, none⟩ 1 1 [.int .i64 S, .int .i64 C] (by rfl) (by rfl)
              (World.news_of_block (cs := #[.int .i64 S, .int .i64 C]) (t := 28) (fr := (0, 0)) (heap_alloc_new w7 _)) (by intro u hu; simp at hu; rcases hu with rfl | rfl <;> rfl) (by omega) mx (by omega) (by have := s7.sz; simp; omega) (w7.heap.size + 1) (by simp) ?_; intro gg8 cp8 w8 hown8 hgrow8 hat8 hlt8; obtain ⟨c8, f8⟩ := s7.after hgrow8))
      all_goals
        have LR := LRel.next HLK.out h16 (s7.app (p := (S, C)) uS uC hown8 hgrow8) hk n8 N3.out
        have hlen : lenAt (w8.setCell ⟨w.heap.size + 1 + 1, 2, none⟩ (.slice (some ⟨gg8, 0, none⟩) (l.length + 1) cp8)) (w.heap.size + 1 + 1) 2 = l.length + 1 := by
          unfold lenAt; rw [World.cell?_setCell_same _ _ _ c8]
        have hlen0 : lenAt wr (w.heap.size + 1 + 1) 2 = l.length := by unfold lenAt; rw [ST.out.c2]
        have HLR := Lib.hid LR
        have HLE := Lib.hid hlen
        have HLE0 := Lib.hid hlen0
        clear LR hlen hlen0 N3 S6 NUM
        go_roundw
        case rel => ((repeat apply Exists.intro); exact ⟨HLR.out, rfl⟩)
        case measure => rw [HLE.out, HLE0.out]; omega
    · have hdl := ST.out.hd
      have c0 := ST.out.c0
      have c1 := ST.out.c1
      by_cases hm : May A X l
      · have e1 := hdl.ear hm
        have hne : l ≠ [] := by intro e; subst e; simp at e1
        obtain ⟨q1, q2⟩ := HL.out hne
        have n1 : 1 ≤ nn := by omega
        obtain ⟨b, o', rfl, har⟩ := hdl.2.2.2 (by omega)
        clear har
        have EN := Lib.hid (wenc_yes A X b o' l.length cv l wr hdl hm)
        have HM := Lib.hid hm
        clear hm hdl hne
        cases bad with
        | true =>
          have NO := Lib.hid (dec_no (bad := true) (l := l) F4.out (fun h => by cases h) HBT.out (fun h => by cases h) (.inr (.inl rfl)))
          go_wp2_with fail
          refine EN.out.mono ?_
          rintro e w9 ⟨gg, cc, rfl, hown9, b9⟩
          obtain ⟨k9, p0, p1, p2, bl9⟩ := ST.out.past b9
          have r0 := (bl9.cell (p := ⟨w.heap.size, 0, none⟩) (by simp)).trans hr0
          have r1 := (bl9.cell (p := ⟨w.heap.size, 1, none⟩) (by simp)).trans hr1
          have r2 := (bl9.cell (p := ⟨w.heap.size, 2, none⟩) (by simp)).trans hr2
          have g0 := (bl9.frozen (p := ⟨w.heap.size, 0, none⟩) (by simp)).trans hz0
          have g1 := (bl9.frozen (p := ⟨w.heap.size, 1, none⟩) (by simp)).trans hz1
          have g2 := (bl9.frozen (p := ⟨w.heap.size, 2, none⟩) (by simp)).trans hz2
          have BL := Lib.hid (hbw.trans (bl9.mono (Nat.le_succ _)))
          clear bl9
          have O9 := Lib.hid hown9
          clear hown9 b9
          go_wp2
          refine bodyPost_ret (v := .tuple #[.agg #[.int .i64 0, .int .i64 0, .slice none 0 0], .int .i64 2]) (by simp [results, Try.results17, go_sem, r0, r1, r2]) rfl (.inr ⟨NO.out, rfl, ?_⟩)
          exact ((BL.out.setCell (Nat.le_refl _) _).setCell (Nat.le_refl _) _).setCell (Nat.le_refl _) _
        | false =>
          have hkk : ¬ (l.length : Int) < nn := fun h => go ⟨n1, q2, rfl, h⟩
          have hke : (l.length : Int) = nn := by omega
          obtain ⟨hm44, h16, hlk⟩ := HB.out rfl
          clear hm44
          have hA : a = some ⟨g, o, none⟩ := HA.out (by omega)
          subst hA
          have h16' : 16 + 12 * l.length ≤ xs.length := h16
          have HRB := Lib.hid (hdB_u8 HM.out)
          have hxs : RdB xs g o c wr := ⟨HU.out, ST.out.xc, (ST.out.src.2 0 _ (bv_at HU.out (by omega))).1, fun j u hj => (ST.out.src.2 j u hj).2⟩
          have HXS := Lib.hid hxs
          have YES := Lib.hid (fun he => dec_yes F4.out hlk h16 n1 q2 hke HM.out he)
          have NO' := Lib.hid (fun he => dec_no (bad := false) (l := l) F4.out (fun _ => hlk) HBT.out (fun _ _ _ => hke) (.inr (.inr he)))
          clear hxs hlk h16
          have HKE := Lib.hid hke
          clear hke go
          by_cases he : eqB (xs.take (16 + 12 * l.length)) (hdB A X l) = true
          · obtain ⟨D1, D2, D3, D4, D5⟩ := YES.out he
            have HE := Lib.hid he
            have HD := Lib.hid (And.intro D1 (And.intro D2 (And.intro D3 (And.intro D4 D5))))
            clear D1 D2 D3 D4 D5 he YES NO'
            go_wp2_with fail
            refine EN.out.mono ?_
            rintro e w9 ⟨gg, cc, rfl, hown9, b9⟩
            obtain ⟨k9, p0, p1, p2, bl9⟩ := ST.out.past b9
            have r0 := (bl9.cell (p := ⟨w.heap.size, 0, none⟩) (by simp)).trans hr0
            have r1 := (bl9.cell (p := ⟨w.heap.size, 1, none⟩) (by simp)).trans hr1
            have r2 := (bl9.cell (p := ⟨w.heap.size, 2, none⟩) (by simp)).trans hr2
            have g0 := (bl9.frozen (p := ⟨w.heap.size, 0, none⟩) (by simp)).trans hz0
            have g1 := (bl9.frozen (p := ⟨w.heap.size, 1, none⟩) (by simp)).trans hz1
            have g2 := (bl9.frozen (p := ⟨w.heap.size, 2, none⟩) (by simp)).trans hz2
            have BL := Lib.hid (hbw.trans (bl9.mono (Nat.le_succ _)))
            clear bl9
            have hcc2 := own_cap hown9
            have PR := Lib.hid (HE.out ▸ hasPrefix_yes g o c gg 0 cc xs.length (16 + 12 * l.length) xs (hdB A X l) w9 (HXS.out.grow b9) (rdB_own hown9 HRB.out hcc2) rfl (by rw [hdB_length]) h16')
            have O9 := Lib.hid (own_below ST.out.own b9)
            clear hown9 b9 hcc2
            go_wp2_with fail
            refine PR.out.mono ?_
            rintro e w10 ⟨rfl, rfl⟩
            go_wp2
            refine bodyPost_ret (v := .tuple #[.agg #[.int .i64 A, .int .i64 X, .slice (some ⟨b, o', none⟩) l.length cv], .int .i64 0]) (by simp [results, Try.results17, go_sem, r0, r1, r2]) rfl (decpost_yes HD.out ?_ ?_)
            · exact hd_own (ownsRow_setCell_below (ownsRow_setCell_below (ownsRow_setCell_below O9.out (by simp; omega) _) (by simp; omega) _) (by simp; omega) _) ST.out.lu
            · exact ((BL.out.setCell (Nat.le_refl _) _).setCell (Nat.le_refl _) _).setCell (Nat.le_refl _) _
          · have he' : eqB (xs.take (16 + 12 * l.length)) (hdB A X l) = false := by simpa using he
            have NO := Lib.hid (NO'.out he')
            have HE := Lib.hid he'
            clear he he' YES NO'
            go_wp2_with fail
            refine EN.out.mono ?_
            rintro e w9 ⟨gg, cc, rfl, hown9, b9⟩
            obtain ⟨k9, p0, p1, p2, bl9⟩ := ST.out.past b9
            have r0 := (bl9.cell (p := ⟨w.heap.size, 0, none⟩) (by simp)).trans hr0
            have r1 := (bl9.cell (p := ⟨w.heap.size, 1, none⟩) (by simp)).trans hr1
            have r2 := (bl9.cell (p := ⟨w.heap.size, 2, none⟩) (by simp)).trans hr2
            have g0 := (bl9.frozen (p := ⟨w.heap.size, 0, none⟩) (by simp)).trans hz0
            have g1 := (bl9.frozen (p := ⟨w.heap.size, 1, none⟩) (by simp)).trans hz1
            have g2 := (bl9.frozen (p := ⟨w.heap.size, 2, none⟩) (by simp)).trans hz2
            have BL := Lib.hid (hbw.trans (bl9.mono (Nat.le_succ _)))
            clear bl9
            have hcc2 := own_cap hown9
            have PR := Lib.hid (HE.out ▸ hasPrefix_yes g o c gg 0 cc xs.length (16 + 12 * l.length) xs (hdB A X l) w9 (HXS.out.grow b9) (rdB_own hown9 HRB.out hcc2) rfl (by rw [hdB_length]) h16')
            have O9 := Lib.hid (own_below ST.out.own b9)
            clear hown9 b9 hcc2
            go_wp2_with fail
            refine PR.out.mono ?_
            rintro e w10 ⟨rfl, rfl⟩
            go_wp2
            refine bodyPost_ret (v := .tuple #[.agg #[.int .i64 0, .int .i64 0, .slice none 0 0], .int .i64 2]) (by simp [results, Try.results17, go_sem, r0, r1, r2]) rfl (.inr ⟨NO.out, rfl, ?_⟩)
            exact ((BL.out.setCell (Nat.le_refl _) _).setCell (Nat.le_refl _) _).setCell (Nat.le_refl _) _
      · have EN := Lib.hid (wenc_not A X av l.length cv l wr hdl hm)
        have hlt : bad = false → 1 ≤ nn → nn ≤ 8 → (l.length : Int) = nn := fun hbf h1 h8 => by
          have : ¬ (l.length : Int) < nn := fun h => go ⟨h1, h8, hbf, h⟩
          by_cases hne : l = []
          · subst hne; simp at this; omega
          · have := (HL.out hne).1; omega
        have NO := Lib.hid (dec_no (l := l) F4.out (fun h => (HB.out h).2.2) HBT.out hlt (.inl hm))
        have HLT := Lib.hid (fun hbf h1 h8 => show ¬ (l.length : Int) < nn from by have := hlt hbf h1 h8; omega)
        clear hdl hm go hlt
        by_cases n1 : 1 ≤ nn
        · by_cases n8 : nn ≤ 8
          · cases bad with
            | true =>
              go_wp2_with fail
              refine EN.out.mono ?_
              rintro e w9 ⟨rfl, b9⟩
              obtain ⟨k9, p0, p1, p2, bl9⟩ := ST.out.past b9
              have r0 := (bl9.cell (p := ⟨w.heap.size, 0, none⟩) (by simp)).trans hr0
              have r1 := (bl9.cell (p := ⟨w.heap.size, 1, none⟩) (by simp)).trans hr1
              have r2 := (bl9.cell (p := ⟨w.heap.size, 2, none⟩) (by simp)).trans hr2
              have g0 := (bl9.frozen (p := ⟨w.heap.size, 0, none⟩) (by simp)).trans hz0
              have g1 := (bl9.frozen (p := ⟨w.heap.size, 1, none⟩) (by simp)).trans hz1
              have g2 := (bl9.frozen (p := ⟨w.heap.size, 2, none⟩) (by simp)).trans hz2
              have BL := Lib.hid (hbw.trans (bl9.mono (Nat.le_succ _)))
              clear bl9
              clear b9
              go_wp2
              refine bodyPost_ret (v := .tuple #[.agg #[.int .i64 0, .int .i64 0, .slice none 0 0], .int .i64 2]) (by simp [results, Try.results17, go_sem, r0, r1, r2]) rfl (.inr ⟨NO.out, rfl, ?_⟩)
              exact ((BL.out.setCell (Nat.le_refl _) _).setCell (Nat.le_refl _) _).setCell (Nat.le_refl _) _
            | false =>
              have hkk := HLT.out rfl n1 n8
              go_wp2_with fail
              refine EN.out.mono ?_
              rintro e w9 ⟨rfl, b9⟩
              obtain ⟨k9, p0, p1, p2, bl9⟩ := ST.out.past b9
              have r0 := (bl9.cell (p := ⟨w.heap.size, 0, none⟩) (by simp)).trans hr0
              have r1 := (bl9.cell (p := ⟨w.heap.size, 1, none⟩) (by simp)).trans hr1
              have r2 := (bl9.cell (p := ⟨w.heap.size, 2, none⟩) (by simp)).trans hr2
              have g0 := (bl9.frozen (p := ⟨w.heap.size, 0, none⟩) (by simp)).trans hz0
              have g1 := (bl9.frozen (p := ⟨w.heap.size, 1, none⟩) (by simp)).trans hz1
              have g2 := (bl9.frozen (p := ⟨w.heap.size, 2, none⟩) (by simp)).trans hz2
              have BL := Lib.hid (hbw.trans (bl9.mono (Nat.le_succ _)))
              clear bl9
              clear b9
              go_wp2
              refine bodyPost_ret (v := .tuple #[.agg #[.int .i64 0, .int .i64 0, .slice none 0 0], .int .i64 2]) (by simp [results, Try.results17, go_sem, r0, r1, r2]) rfl (.inr ⟨NO.out, rfl, ?_⟩)
              exact ((BL.out.setCell (Nat.le_refl _) _).setCell (Nat.le_refl _) _).setCell (Nat.le_refl _) _
          · cases bad
            all_goals
              go_wp2_with fail
              refine EN.out.mono ?_
              rintro e w9 ⟨rfl, b9⟩
              obtain ⟨k9, p0, p1, p2, bl9⟩ := ST.out.past b9
              have r0 := (bl9.cell (p := ⟨w.heap.size, 0, none⟩) (by simp)).trans hr0
              have r1 := (bl9.cell (p := ⟨w.heap.size, 1, none⟩) (by simp)).trans hr1
              have r2 := (bl9.cell (p := ⟨w.heap.size, 2, none⟩) (by simp)).trans hr2
              have g0 := (bl9.frozen (p := ⟨w.heap.size, 0, none⟩) (by simp)).trans hz0
              have g1 := (bl9.frozen (p := ⟨w.heap.size, 1, none⟩) (by simp)).trans hz1
              have g2 := (bl9.frozen (p := ⟨w.heap.size, 2, none⟩) (by simp)).trans hz2
              have BL := Lib.hid (hbw.trans (bl9.mono (Nat.le_succ _)))
              clear bl9
              clear b9
              go_wp2
              refine bodyPost_ret (v := .tuple #[.agg #[.int .i64 0, .int .i64 0, .slice none 0 0], .int .i64 2]) (by simp [results, Try.results17, go_sem, r0, r1, r2]) rfl (.inr ⟨NO.out, rfl, ?_⟩)
              exact ((BL.out.setCell (Nat.le_refl _) _).setCell (Nat.le_refl _) _).setCell (Nat.le_refl _) _
        · cases bad
          all_goals
            go_wp2_with fail
            refine EN.out.mono ?_
            rintro e w9 ⟨rfl, b9⟩
            obtain ⟨k9, p0, p1, p2, bl9⟩ := ST.out.past b9
            have r0 := (bl9.cell (p := ⟨w.heap.size, 0, none⟩) (by simp)).trans hr0
            have r1 := (bl9.cell (p := ⟨w.heap.size, 1, none⟩) (by simp)).trans hr1
            have r2 := (bl9.cell (p := ⟨w.heap.size, 2, none⟩) (by simp)).trans hr2
            have g0 := (bl9.frozen (p := ⟨w.heap.size, 0, none⟩) (by simp)).trans hz0
            have g1 := (bl9.frozen (p := ⟨w.heap.size, 1, none⟩) (by simp)).trans hz1
            have g2 := (bl9.frozen (p := ⟨w.heap.size, 2, none⟩) (by simp)).trans hz2
            have BL := Lib.hid (hbw.trans (bl9.mono (Nat.le_succ _)))
            clear bl9
            clear b9
            go_wp2
            refine bodyPost_ret (v := .tuple #[.agg #[.int .i64 0, .int .i64 0, .slice none 0 0], .int .i64 2]) (by simp [results, Try.results17, go_sem, r0, r1, r2]) rfl (.inr ⟨NO.out, rfl, ?_⟩)
            exact ((BL.out.setCell (Nat.le_refl _) _).setCell (Nat.le_refl _) _).setCell (Nat.le_refl _) _
end Go.Proofs.Ytcfcdajglfipeaa
