/-
  The walks of the document's Create, Remove, Size. / The walks of the document's WriteAt, Pending.
-/
import Derived.Test.YticpldjcmhpjoaaQl
namespace Go.Proofs.Yticpldjcmhpjoaa
open Go.RowKit
set_option linter.unusedVariables false
set_option linter.unusedSimpArgs false

theorem XsAt.more {P : Nat → Prop} {w w' : World} {xb : Nat} {D : Doc} (h : XsAt P w xb D) (hg : Grow w w') : XsAt (More P w w') w' xb D := (h.keep (stand_grow hg)).mono (fun k _ h => .inl h)
theorem XsP.only {P : Nat → Prop} {w w' : World} {xb : Nat} {D : Doc} {v : Value} (h : XsAt P w xb D) (hg : Grow w w') : XsP P xb v D w (.returned v) w' := ⟨rfl, h.more hg, TurnX.of_grow hg⟩
theorem XsAt.after {P : Nat → Prop} {w w7 w' : World} {xb : Nat} {D : Doc} (hg : Grow w w7) (h : XsAt (More (More P w w7) w7 w') w' xb D) (t : TurnX (More P w w7) w7 w') : XsAt (More P w w') w' xb D ∧ TurnX P w w' := by
  have s1 := Grow.size hg
  have s2 := t.size
  refine ⟨h.mono (fun k hk hp => ?_), (TurnX.of_grow (P := P) hg).trans t (fun k hk hp => ?_)⟩
  · unfold More at hp ⊢
    rcases hp with (hp | hp) | hp
    · exact .inl hp
    · exact .inr ⟨hp.1, hk⟩
    · exact .inr ⟨by omega, hk⟩
  · rcases hp with hp | hp
    · exact hp
    · omega
theorem idx_found {fs : List File} {s : ByteArray} {b : List UInt8} (hn : NodupF fs) (h : look fs s = some b) : ∃ k : Nat, idx fs s = k ∧ fs[k]? = some (s, b) := by
  obtain ⟨k, hk, he⟩ := List.getElem_of_mem (look_mem h)
  have hk' : fs[k]? = some (s, b) := by rw [List.getElem?_eq_getElem hk, he]
  exact ⟨k, ((idx_iff hn hk').2 rfl).symm, hk'⟩
/-- what the walks are told of the document's FS -/
theorem XsAt.cells {P : Nat → Prop} {w : World} {xb : Nat} {D : Doc} (h : XsAt P w xb D) : ∃ a c al cl, RowF P w (.slice a D.now.length c) D.now ∧ D.now.length ≤ c ∧
    ∀ W, Grow w W → W.cell? ⟨xb, 0, none⟩ = some (.int .i64 (D.room : Int)) ∧ W.cell? ⟨xb, 1, none⟩ = some (.slice a D.now.length c) ∧ W.cell? ⟨xb, 3, none⟩ = some (.slice al D.l.length cl) := by
  obtain ⟨nv, wv, lv, cs, hM⟩ := h
  obtain ⟨a, c, hv, hc⟩ := hM.now.shape
  subst hv
  obtain ⟨al, cl, hlv⟩ : ∃ al cl, lv = .slice al D.l.length cl := by
    rcases hM.row.2 with ⟨h1, h2⟩ | ⟨g, cap, cur, h1, _⟩
    · exact ⟨none, 0, by rw [h1, h2]⟩
    · exact ⟨_, cap, h1⟩
  subst hlv
  refine ⟨a, c, al, cl, hM.now, hc, fun W hW => ?_⟩
  have hb := (Below.block hW xb (lt_blk hM.hx)).trans hM.hx
  exact ⟨by rw [cell_blk hb]; rfl, by rw [cell_blk hb]; rfl, by rw [cell_blk hb]; rfl⟩
set_option maxRecDepth 20000 in
set_option maxHeartbeats 2000000 in
theorem xcreate_any {P : Nat → Prop} (xb : Nat) (D : Doc) (name : ByteArray) (pv : Value) (ls : List (List UInt8)) (w : World) (hX : XsAt P w xb D) (hG : Good D) (hp : PartsIn w pv ls) (hn : ls.length ≤ 1000000) (hl : ls.flatten.length ≤ 1073741824) (hll : D.l.length ≤ 1000000) (hnl : D.now.length ≤ 100000) :
    Calls Try.prog 35 #[.pointer (some ⟨xb, 0, none⟩), .string name, pv] w (XsP P xb (.int .i64 (createD D name ls.flatten).1) (createD D name ls.flatten).2 w) := by
  have RW := rows_any pv ls w hp hn hl
  obtain ⟨data, hdata⟩ : ∃ data, data = ls.flatten := ⟨_, rfl⟩
  rw [← hdata] at RW hl ⊢
  have RWH := Lib.hid RW
  have IS := Lib.hid (is_any name)
  have HX := Lib.hid hX
  obtain ⟨na, nc, al, cl, hF, hnc, hcell⟩ := hX.cells
  obtain ⟨nn, hnn⟩ : ∃ nn, nn = D.now.length := ⟨_, rfl⟩
  rw [← hnn] at hF hnc hcell
  have HF := Lib.hid hF
  have HC := Lib.hid hcell
  have FN := Lib.hid (fun (W : World) (hW : Grow w W) => findr_any _ D.now name W (hF.keep (stand_grow hW)) (by omega))
  have HNN := Lib.hid hnn
  have HDATA := Lib.hid hdata
  clear hnn hdata
  have HG := Lib.hid hG
  obtain ⟨pa, pc, hpv, hpx⟩ := hp
  subst hpv
  unfold createD
  have hOk := hG.runs.last
  have hroom := hG.room
  have hsum := hOk.sum
  cases hb : isB name with
  | false =>
    rw [hb] at IS
    clear hX hF hcell hG hb RW hpx hOk hroom hsum
    go_enter Try.func35, Try.ntmps35
    go_wp2_with fail
    refine RWH.out.mono ?_
    rintro _ w1 ⟨v1, rfl, o1, g1⟩
    have G1 := Lib.hid g1
    clear o1 g1
    go_wp2_with fail
    refine (IS.out _).mono ?_
    rintro _ w2 ⟨rfl, rfl⟩
    go_wp2
    go_ret
    exact XsP.only HX.out G1.out
  | true =>
    rw [hb] at IS
    cases hlk : look D.now name with
    | some b =>
      obtain ⟨k, hk, _⟩ := idx_found hOk.nodup hlk
      rw [hk] at FN
      clear hX hF hb RW hpx hOk hroom hsum hG hlk hk hcell
      go_enter Try.func35, Try.ntmps35
      go_wp2_with fail
      refine RWH.out.mono ?_
      rintro _ w1 ⟨v1, rfl, o1, g1⟩
      have G1 := Lib.hid g1
      clear o1 g1
      go_wp2_with fail
      refine (IS.out _).mono ?_
      rintro _ w2 ⟨rfl, rfl⟩
      obtain ⟨c0, c1, c3⟩ := HC.out _ G1.out
      go_wp2_with fail
      refine (FN.out _ G1.out).mono ?_
      rintro _ w3 ⟨rfl, g3⟩
      have G3 := Lib.hid (G1.out.trans2 g3)
      clear g3
      go_wp2
      go_ret
      exact XsP.only HX.out G3.out
    | none =>
      rw [idx_look hlk] at FN
      have UU := Lib.hid (show ∀ W, Grow w W → Calls Try.prog 42 #[.pointer (some ⟨xb, 0, none⟩)] W (fun e w' => e = .returned (.int .i64 (sumL D.now : Int)) ∧ Grow w w' ∧ Grow W w') from fun W hW => (xused_any xb D W (hX.keep (stand_grow hW)) (by omega) (by omega)).mono (fun e w' h => ⟨h.1, hW.trans2 h.2, h.2⟩))
      have HNL := Lib.hid hnl
      have HOKC := Lib.hid (show OkC D.now ⟨0, name, 0, data⟩ from ⟨hb, hl, .inl ⟨rfl, hlk⟩⟩)
      obtain ⟨dl, hdl⟩ : ∃ dl, dl = data.length := ⟨_, rfl⟩
      obtain ⟨sm, hsm⟩ : ∃ sm, sm = sumL D.now := ⟨_, rfl⟩
      obtain ⟨rm, hrm⟩ : ∃ rm, rm = D.room := ⟨_, rfl⟩
      rw [← hsm] at UU
      rw [← hrm] at HC hroom hsum
      rw [← hsm] at hsum
      rw [← hdl] at hl
      have HDL := Lib.hid hdl
      rw [← hsm, ← hdl, ← hrm]
      clear hdl
      have hwr : IntKind.i64.wrap ((rm : Int) - (sm : Int)) = (rm : Int) - (sm : Int) := IntWalk.i64_in _ (by omega)
      clear hX hF hcell hb RW hpx hOk hG hlk hsm hrm
      by_cases hc : rm < sm + dl
      · have hc' : (rm : Int) - (sm : Int) < (dl : Int) := by omega
        rw [if_pos hc]
        go_enter Try.func35, Try.ntmps35
        go_wp2_with fail
        refine RWH.out.mono ?_
        rintro _ w1 ⟨v1, rfl, o1, g1⟩
        obtain ⟨a1, k1, hv1, _⟩ := o1.shape
        rw [← HDL.out] at hv1
        subst hv1
        have G1 := Lib.hid g1
        clear o1 g1
        go_wp2_with fail
        refine (IS.out _).mono ?_
        rintro _ w2 ⟨rfl, rfl⟩
        obtain ⟨c0, c1, c3⟩ := HC.out _ G1.out
        go_wp2_with fail
        refine (FN.out _ G1.out).mono ?_
        rintro _ w3 ⟨rfl, g3⟩
        have G3 := Lib.hid (G1.out.trans2 g3)
        clear g3 c0 c1 c3
        have GD := G3.out.drew
        go_wp2_with fail
        go_region_held3 (fun W => Grow w W ∧ W.cell? ⟨xb, 0, none⟩ = some (.int .i64 (rm : Int))) (exact ⟨by assumption, (HC.out _ (by assumption)).1⟩)
          ((go_at_call 42; refine (UU.out _ (by assumption)).mono ?_; rintro e w6 ⟨rfl, g6, g63⟩))
        all_goals
          go_wp2
          go_ret
          exact XsP.only HX.out (by assumption)
      · have hc' : ¬ (rm : Int) - (sm : Int) < (dl : Int) := by omega
        rw [if_neg hc]
        go_enter Try.func35, Try.ntmps35
        go_wp2_with fail
        refine RWH.out.mono ?_
        rintro _ w1 ⟨v1, rfl, o1, g1⟩
        obtain ⟨a1, k1, hv1, _⟩ := o1.shape
        rw [← HDL.out] at hv1
        subst hv1
        have G1 := Lib.hid g1
        have O1 := Lib.hid o1
        clear o1 g1
        go_wp2_with fail
        refine (IS.out _).mono ?_
        rintro _ w2 ⟨rfl, rfl⟩
        obtain ⟨c0, c1, c3⟩ := HC.out _ G1.out
        go_wp2_with fail
        refine (FN.out _ G1.out).mono ?_
        rintro _ w3 ⟨rfl, g3⟩
        have O3 := Lib.hid (O1.out.grow g3)
        have G3 := Lib.hid (G1.out.trans2 g3)
        clear g3 c0 c1 c3
        have GD := G3.out.drew
        go_wp2_with fail
        go_region_held3 (fun W => Grow w W ∧ W.cell? ⟨xb, 0, none⟩ = some (.int .i64 (rm : Int))) (exact ⟨by assumption, (HC.out _ (by assumption)).1⟩)
          ((go_at_call 42; refine (UU.out _ (by assumption)).mono ?_; rintro e w6 ⟨rfl, g6, g63⟩))
        all_goals
          have g36 : Grow w3 w6 := (Grow.refl w3).drew.trans2 g63
          have hz := Grow.size G3.out
          have DO := xdo_any (P := More P w w6) xb D ⟨0, name, 0, data⟩ (.slice a1 dl k1) w6 (HX.out.more g6) HG.out HOKC.out hll HNL.out (((O3.out.grow g36).bytes).mono (fun k hk h => .inr ⟨h, hk⟩))
          simp only [Int.add_zero, Int.natCast_zero] at DO
          have DOH := Lib.hid DO
          clear DO
          have G6 := Lib.hid g6
          clear g6 g63 g36 hz
          go_wp2_with fail
          refine DOH.out.mono ?_
          rintro _ w8 ⟨rfl, hX8, t8⟩
          have FIN := Lib.hid (XsAt.after G6.out hX8 t8)
          clear hX8 t8
          go_wp2
          go_ret
          exact ⟨rfl, FIN.out.1, FIN.out.2⟩
set_option maxHeartbeats 2000000 in
theorem xremove_any {P : Nat → Prop} (xb : Nat) (D : Doc) (s : ByteArray) (w : World) (hX : XsAt P w xb D) (hG : Good D) (hll : D.l.length ≤ 1000000) (hnl : D.now.length ≤ 100000) :
    Calls Try.prog 37 #[.pointer (some ⟨xb, 0, none⟩), .string s] w (XsP P xb (.int .i64 (removeD D s).1) (removeD D s).2 w) := by
  have IS := Lib.hid (is_any s)
  have HX := Lib.hid hX
  obtain ⟨na, nc, al, cl, hF, hnc, hcell⟩ := hX.cells
  obtain ⟨nn, hnn⟩ : ∃ nn, nn = D.now.length := ⟨_, rfl⟩
  rw [← hnn] at hF hnc hcell
  have HF := Lib.hid hF
  have HC := Lib.hid hcell
  have FN := Lib.hid (fun (W : World) (hW : Grow w W) => findr_any _ D.now s W (hF.keep (stand_grow hW)) (by omega))
  have HG := Lib.hid hG
  have HNN := Lib.hid hnn
  have HNL := Lib.hid hnl
  obtain ⟨c0, c1, c3⟩ := hcell w (Grow.refl w)
  have hOk := hG.runs.last
  cases hb : isB s with
  | false =>
    have e9 : removeD D s = (1, D) := by unfold removeD findD; rw [hb]; rfl
    rw [e9]
    clear e9
    rw [hb] at IS
    clear hX hF hcell hG hb hOk hnn hnl hnc
    go_enter Try.func37, Try.ntmps37
    go_wp2_with fail
    refine (IS.out _).mono ?_
    rintro _ w2 ⟨rfl, rfl⟩
    go_wp2
    go_ret
    exact XsP.only HX.out (Grow.refl _)
  | true =>
    rw [hb] at IS
    cases hlk : look D.now s with
    | none =>
      have e9 : removeD D s = (5, D) := by unfold removeD findD; rw [hb, hlk]; rfl
      rw [e9]
      clear e9
      rw [idx_look hlk] at FN
      clear hX hF hcell hG hb hOk hnn hnl hnc hlk
      go_enter Try.func37, Try.ntmps37
      go_wp2_with fail
      refine (IS.out _).mono ?_
      rintro _ w2 ⟨rfl, rfl⟩
      go_wp2_with fail
      refine (FN.out _ (Grow.refl _)).mono ?_
      rintro _ w3 ⟨rfl, g3⟩
      have G3 := Lib.hid g3
      clear g3
      go_wp2
      go_ret
      exact XsP.only HX.out G3.out
    | some b =>
      have e9 : removeD D s = (0, D.did ⟨2, s, 0, []⟩) := by unfold removeD findD; rw [hb, hlk]; rfl
      rw [e9]
      clear e9
      obtain ⟨k, hk, _⟩ := idx_found hOk.nodup hlk
      rw [hk] at FN
      have HOKC := Lib.hid (show OkC D.now ⟨2, s, 0, []⟩ from ⟨hb, by simp, .inr (.inr ⟨rfl, b, hlk⟩)⟩)
      clear hX hF hcell hG hb hOk hnn hnl hnc hlk hk
      have hk0 : ¬ (k : Int) < 0 := by omega
      go_enter Try.func37, Try.ntmps37
      go_wp2_with fail
      refine (IS.out _).mono ?_
      rintro _ w2 ⟨rfl, rfl⟩
      go_wp2_with fail
      refine (FN.out _ (Grow.refl _)).mono ?_
      rintro _ w3 ⟨rfl, g3⟩
      have DO := xdo_any (P := More P w2 w3) xb D ⟨2, s, 0, []⟩ (.slice none 0 0) w3 (HX.out.more g3) HG.out HOKC.out hll HNL.out (.inl ⟨rfl, rfl⟩)
      simp only [Int.natCast_zero] at DO
      have DOH := Lib.hid DO
      clear DO
      have G3 := Lib.hid (show Grow w2 w3 from g3)
      clear g3
      go_wp2_with fail
      refine DOH.out.mono ?_
      rintro _ w8 ⟨rfl, hX8, t8⟩
      have FIN := Lib.hid (XsAt.after G3.out hX8 t8)
      clear hX8 t8
      go_wp2
      go_ret
      exact ⟨rfl, FIN.out.1, FIN.out.2⟩
set_option maxHeartbeats 2000000 in
theorem xsize_any {P : Nat → Prop} (xb : Nat) (D : Doc) (s : ByteArray) (w : World) (hX : XsAt P w xb D) (hG : Good D) (hnl : D.now.length ≤ 100000) :
    Calls Try.prog 40 #[.pointer (some ⟨xb, 0, none⟩), .string s] w (OnlyP (.tuple #[.int .i64 ((findD D s).1.length : Int), .int .i64 (findD D s).2]) w) := by
  have IS := Lib.hid (is_any s)
  have HX := Lib.hid hX
  obtain ⟨na, nc, al, cl, hF, hnc, hcell⟩ := hX.cells
  obtain ⟨nn, hnn⟩ : ∃ nn, nn = D.now.length := ⟨_, rfl⟩
  rw [← hnn] at hF hnc hcell
  have HF := Lib.hid hF
  have HC := Lib.hid hcell
  have FN := Lib.hid (fun (W : World) (hW : Grow w W) => findr_any _ D.now s W (hF.keep (stand_grow hW)) (by omega))
  have HG := Lib.hid hG
  have HNN := Lib.hid hnn
  have HNL := Lib.hid hnl
  obtain ⟨c0, c1, c3⟩ := hcell w (Grow.refl w)
  have hOk := hG.runs.last
  cases hb : isB s with
  | false =>
    have e9 : findD D s = ([], 1) := by unfold findD; rw [hb]; rfl
    rw [e9]
    clear e9
    rw [hb] at IS
    clear hX hF hcell hG hb hOk hnn hnl
    go_enter Try.func40, Try.ntmps40
    go_wp2_with fail
    refine (FN.out _ (Grow.refl _)).mono ?_
    rintro _ w3 ⟨rfl, g3⟩
    have G3 := Lib.hid g3
    clear g3
    go_wp2_with fail
    refine (IS.out _).mono ?_
    rintro _ w2 ⟨rfl, rfl⟩
    go_wp2
    refine bodyPost_ret (v := .tuple #[.int .i64 0, .int .i64 1]) (by simp [results, Try.results40, go_sem]) rfl ?_
    exact ⟨rfl, G3.out⟩
  | true =>
    rw [hb] at IS
    cases hlk : look D.now s with
    | none =>
      have e9 : findD D s = ([], 5) := by unfold findD; rw [hb, hlk]; rfl
      rw [e9]
      clear e9
      rw [idx_look hlk] at FN
      clear hX hF hcell hG hb hOk hnn hnl hlk
      go_enter Try.func40, Try.ntmps40
      go_wp2_with fail
      refine (FN.out _ (Grow.refl _)).mono ?_
      rintro _ w3 ⟨rfl, g3⟩
      have G3 := Lib.hid g3
      clear g3
      go_wp2_with fail
      refine (IS.out _).mono ?_
      rintro _ w2 ⟨rfl, rfl⟩
      go_wp2
      refine bodyPost_ret (v := .tuple #[.int .i64 0, .int .i64 5]) (by simp [results, Try.results40, go_sem]) rfl ?_
      exact ⟨rfl, G3.out⟩
    | some b =>
      have e9 : findD D s = (b, 0) := by unfold findD; rw [hb, hlk]; rfl
      rw [e9]
      clear e9
      obtain ⟨k, hk, hkb⟩ := idx_found hOk.nodup hlk
      rw [hk] at FN
      have hkn : k < nn := by rw [hnn]; exact (List.getElem?_eq_some_iff.1 hkb).1
      have hkn' : (k : Int) < (nn : Int) := by omega
      have hk0 : ¬ (k : Int) < 0 := by omega
      have CB := Lib.hid (fun (W : World) (hW : Grow w W) => (hF.keep (stand_grow hW)).at k _ hkb)
      clear hX hF hcell hG hb hOk hnn hnl hlk hk hkb
      go_enter Try.func40, Try.ntmps40
      go_wp2_with fail
      refine (FN.out _ (Grow.refl _)).mono ?_
      rintro _ w3 ⟨rfl, g3⟩
      have G3 := Lib.hid g3
      clear g3
      go_wp2_with fail
      refine (IS.out _).mono ?_
      rintro _ w2 ⟨rfl, rfl⟩
      obtain ⟨g, bv, hna, hbb, _, r1⟩ := CB.out _ G3.out
      obtain ⟨d0, d1, d3⟩ := HC.out _ G3.out
      obtain ⟨ab, cb, hbv⟩ := hbb.shape
      subst hbv
      clear hbb
      subst hna
      obtain ⟨bl, hbl⟩ : ∃ bl, bl = b.length := ⟨_, rfl⟩
      rw [← hbl] at r1 ⊢
      have HBL := Lib.hid hbl
      clear hbl
      go_wp2
      refine bodyPost_ret (v := .tuple #[.int .i64 (bl : Int), .int .i64 0]) (by simp [results, Try.results40, go_sem]) rfl ?_
      exact ⟨by rw [HBL.out], G3.out⟩
end Go.Proofs.Yticpldjcmhpjoaa

namespace Go.Proofs.Yticpldjcmhpjoaa
open Go.RowKit
set_option linter.unusedVariables false
set_option linter.unusedSimpArgs false

set_option maxRecDepth 20000 in
set_option maxHeartbeats 4000000 in
theorem xwrite_any {P : Nat → Prop} (xb : Nat) (D : Doc) (s : ByteArray) (at_ : Int) (pv : Value) (ls : List (List UInt8)) (w : World) (hX : XsAt P w xb D) (hG : Good D) (hp : PartsIn w pv ls) (hn : ls.length ≤ 1000000) (hl : ls.flatten.length ≤ 1073741824) (hll : D.l.length ≤ 1000000) (hnl : D.now.length ≤ 100000) :
    Calls Try.prog 36 #[.pointer (some ⟨xb, 0, none⟩), .string s, .int .i64 at_, pv] w (XsP P xb (.int .i64 (writeD D s at_ ls.flatten).1) (writeD D s at_ ls.flatten).2 w) := by
  have RW := rows_any pv ls w hp hn hl
  obtain ⟨data, hdata⟩ : ∃ data, data = ls.flatten := ⟨_, rfl⟩
  rw [← hdata] at RW hl ⊢
  have RWH := Lib.hid RW
  obtain ⟨dl, hdl⟩ : ∃ dl, dl = data.length := ⟨_, rfl⟩
  have HDL := Lib.hid hdl
  have IS := Lib.hid (is_any s)
  have HX := Lib.hid hX
  obtain ⟨na, nc, al, cl, hF, hnc, hcell⟩ := hX.cells
  obtain ⟨nn, hnn⟩ : ∃ nn, nn = D.now.length := ⟨_, rfl⟩
  rw [← hnn] at hF hnc hcell
  have HC := Lib.hid hcell
  have FN := Lib.hid (fun (W : World) (hW : Grow w W) => findr_any _ D.now s W (hF.keep (stand_grow hW)) (by omega))
  have HG := Lib.hid hG
  have HNL := Lib.hid hnl
  have hOk := hG.runs.last
  obtain ⟨pa, pc, hpv, hpx⟩ := hp
  subst hpv
  clear RW hdata hpx
  unfold writeD
  cases hb : isB s with
  | false =>
    have e9 : findD D s = ([], 1) := by unfold findD; rw [hb]; rfl
    rw [e9]
    clear e9
    rw [hb] at IS
    clear hX hF hcell hG hb hOk hnn hnl hnc hdl hl
    go_enter Try.func36, Try.ntmps36
    go_wp2_with fail
    refine RWH.out.mono ?_
    rintro _ w1 ⟨v1, rfl, o1, g1⟩
    obtain ⟨a1, k1, hv1, hx1⟩ := o1.shape
    rw [← HDL.out] at hv1
    subst hv1
    have G1 := Lib.hid g1
    have O1 := Lib.hid o1
    clear o1 g1 hx1
    obtain ⟨c0, c1, c3⟩ := HC.out _ G1.out
    go_wp2_with fail
    refine (FN.out _ G1.out).mono ?_
    rintro _ w3 ⟨rfl, g3⟩
    have O3 := Lib.hid (O1.out.grow g3)
    have G3 := Lib.hid (G1.out.trans2 g3)
    clear g3 c0 c1 c3
    go_wp2_with fail
    refine (IS.out _).mono ?_
    rintro _ w2 ⟨rfl, rfl⟩
    go_wp2
    go_ret
    exact XsP.only HX.out G3.out
  | true =>
    rw [hb] at IS
    cases hlk : look D.now s with
    | none =>
      have e9 : findD D s = ([], 5) := by unfold findD; rw [hb, hlk]; rfl
      rw [e9]
      clear e9
      rw [idx_look hlk] at FN
      clear hX hF hcell hG hb hOk hnn hnl hnc hdl hl hlk
      go_enter Try.func36, Try.ntmps36
      go_wp2_with fail
      refine RWH.out.mono ?_
      rintro _ w1 ⟨v1, rfl, o1, g1⟩
      obtain ⟨a1, k1, hv1, hx1⟩ := o1.shape
      rw [← HDL.out] at hv1
      subst hv1
      have G1 := Lib.hid g1
      have O1 := Lib.hid o1
      clear o1 g1 hx1
      obtain ⟨c0, c1, c3⟩ := HC.out _ G1.out
      go_wp2_with fail
      refine (FN.out _ G1.out).mono ?_
      rintro _ w3 ⟨rfl, g3⟩
      have O3 := Lib.hid (O1.out.grow g3)
      have G3 := Lib.hid (G1.out.trans2 g3)
      clear g3 c0 c1 c3
      go_wp2_with fail
      refine (IS.out _).mono ?_
      rintro _ w2 ⟨rfl, rfl⟩
      go_wp2
      go_ret
      exact XsP.only HX.out G3.out
    | some b =>
      have e9 : findD D s = (b, 0) := by unfold findD; rw [hb, hlk]; rfl
      rw [e9, if_pos rfl]
      clear e9
      obtain ⟨k, hk, hkb⟩ := idx_found hOk.nodup hlk
      rw [hk] at FN
      have hkn : k < nn := by rw [hnn]; exact (List.getElem?_eq_some_iff.1 hkb).1
      have hkn' : (k : Int) < (nn : Int) := by omega
      have hk0 : ¬ (k : Int) < 0 := by omega
      have hsm := (hOk.small hG.room) _ _ hlk
      have CB := Lib.hid (fun (W : World) (hW : Grow w W) => (hF.keep (stand_grow hW)).at k _ hkb)
      obtain ⟨bl, hbl⟩ : ∃ bl, bl = b.length := ⟨_, rfl⟩
      have HBL := Lib.hid hbl
      have HOKC := Lib.hid (fun (i : Nat) (hi : i + dl ≤ bl) => (show OkC D.now ⟨1, s, i, data⟩ from ⟨hb, hl, .inr (.inl ⟨rfl, b, hlk, by rw [← hdl, ← hbl]; exact hi⟩)⟩))
      simp only
      rw [← hbl, ← hdl]
      rw [← hbl] at hsm
      rw [← hdl] at hl
      clear hX hF hcell hG hb hOk hnn hnl hnc hdl hlk hk hkb hbl
      have OPEN := Lib.hid (show ∀ (W : World), Grow w W → ∃ g ab cb, na = some ⟨g, 0, none⟩ ∧ W.cell? ⟨g, k * 2 + 1, none⟩ = some (.slice ab bl cb) from fun W hW => by
        obtain ⟨g, bv, h1, h2, _, h3⟩ := CB.out W hW
        obtain ⟨ab, cb, hbv⟩ := h2.shape
        subst hbv
        exact ⟨g, ab, cb, h1, by rw [HBL.out]; exact h3⟩)
      by_cases c1 : at_ < 0
      · rw [if_neg (by omega)]
        go_enter Try.func36, Try.ntmps36
        go_wp2_with fail
        refine RWH.out.mono ?_
        rintro _ w1 ⟨v1, rfl, o1, g1⟩
        obtain ⟨a1, k1, hv1, hx1⟩ := o1.shape
        rw [← HDL.out] at hv1
        subst hv1
        have G1 := Lib.hid g1
        have O1 := Lib.hid o1
        clear o1 g1 hx1
        obtain ⟨c0, c1, c3⟩ := HC.out _ G1.out
        go_wp2_with fail
        refine (FN.out _ G1.out).mono ?_
        rintro _ w3 ⟨rfl, g3⟩
        have O3 := Lib.hid (O1.out.grow g3)
        have G3 := Lib.hid (G1.out.trans2 g3)
        clear g3 c0 c1 c3
        go_wp2_with fail
        refine (IS.out _).mono ?_
        rintro _ w2 ⟨rfl, rfl⟩
        go_wp2
        go_ret
        exact XsP.only HX.out G3.out
      · obtain ⟨i, rfl⟩ := Int.eq_ofNat_of_zero_le (show 0 ≤ at_ by omega)
        by_cases c3 : (bl : Int) < (i : Int)
        · rw [if_neg (by omega)]
          go_enter Try.func36, Try.ntmps36
          go_wp2_with fail
          refine RWH.out.mono ?_
          rintro _ w1 ⟨v1, rfl, o1, g1⟩
          obtain ⟨a1, k1, hv1, hx1⟩ := o1.shape
          rw [← HDL.out] at hv1
          subst hv1
          have G1 := Lib.hid g1
          have O1 := Lib.hid o1
          clear o1 g1 hx1
          obtain ⟨c0, c1, c3⟩ := HC.out _ G1.out
          go_wp2_with fail
          refine (FN.out _ G1.out).mono ?_
          rintro _ w3 ⟨rfl, g3⟩
          have O3 := Lib.hid (O1.out.grow g3)
          have G3 := Lib.hid (G1.out.trans2 g3)
          clear g3 c0 c1 c3
          go_wp2_with fail
          refine (IS.out _).mono ?_
          rintro _ w2 ⟨rfl, rfl⟩
          obtain ⟨g, ab, cb, hna, r1⟩ := OPEN.out _ G3.out
          obtain ⟨d0, d1, d3⟩ := HC.out _ G3.out
          subst hna
          go_wp2
          go_ret
          exact XsP.only HX.out G3.out
        · have hwr : IntKind.i64.wrap ((bl : Int) - (i : Int)) = (bl : Int) - (i : Int) := IntWalk.i64_in _ (by omega)
          by_cases c4 : (bl : Int) - (i : Int) < (dl : Int)
          · rw [if_neg (by omega)]
            go_enter Try.func36, Try.ntmps36
            go_wp2_with fail
            refine RWH.out.mono ?_
            rintro _ w1 ⟨v1, rfl, o1, g1⟩
            obtain ⟨a1, k1, hv1, hx1⟩ := o1.shape
            rw [← HDL.out] at hv1
            subst hv1
            have G1 := Lib.hid g1
            have O1 := Lib.hid o1
            clear o1 g1 hx1
            obtain ⟨c0, c1, c3⟩ := HC.out _ G1.out
            go_wp2_with fail
            refine (FN.out _ G1.out).mono ?_
            rintro _ w3 ⟨rfl, g3⟩
            have O3 := Lib.hid (O1.out.grow g3)
            have G3 := Lib.hid (G1.out.trans2 g3)
            clear g3 c0 c1 c3
            go_wp2_with fail
            refine (IS.out _).mono ?_
            rintro _ w2 ⟨rfl, rfl⟩
            obtain ⟨g, ab, cb, hna, r1⟩ := OPEN.out _ G3.out
            obtain ⟨d0, d1, d3⟩ := HC.out _ G3.out
            subst hna
            go_wp2
            go_ret
            exact XsP.only HX.out G3.out
          · rw [if_pos (by omega)]
            have HC9 := Lib.hid (HOKC.out i (by omega))
            have e9 : ((i : Nat) : Int).toNat = i := by simp
            rw [e9]
            clear e9
            go_enter Try.func36, Try.ntmps36
            go_wp2_with fail
            refine RWH.out.mono ?_
            rintro _ w1 ⟨v1, rfl, o1, g1⟩
            obtain ⟨a1, k1, hv1, hx1⟩ := o1.shape
            rw [← HDL.out] at hv1
            subst hv1
            have G1 := Lib.hid g1
            have O1 := Lib.hid o1
            clear o1 g1 hx1
            obtain ⟨c0, c1, c3⟩ := HC.out _ G1.out
            go_wp2_with fail
            refine (FN.out _ G1.out).mono ?_
            rintro _ w3 ⟨rfl, g3⟩
            have O3 := Lib.hid (O1.out.grow g3)
            have G3 := Lib.hid (G1.out.trans2 g3)
            clear g3 c0 c1 c3
            go_wp2_with fail
            refine (IS.out _).mono ?_
            rintro _ w2 ⟨rfl, rfl⟩
            obtain ⟨g, ab, cb, hna, r1⟩ := OPEN.out _ G3.out
            obtain ⟨d0, d1, d3⟩ := HC.out _ G3.out
            subst hna
            have hz := Grow.size G3.out
            have DO := xdo_any (P := More P w w2) xb D ⟨1, s, i, data⟩ (.slice a1 dl k1) w2 (HX.out.more G3.out) HG.out HC9.out hll HNL.out ((O3.out.bytes).mono (fun k hk h => .inr ⟨h, hk⟩))
            have DOH := Lib.hid DO
            clear DO hz
            go_wp2_with fail
            refine DOH.out.mono ?_
            rintro _ w8 ⟨rfl, hX8, t8⟩
            have FIN := Lib.hid (XsAt.after G3.out hX8 t8)
            clear hX8 t8
            go_wp2
            go_ret
            exact ⟨rfl, FIN.out.1, FIN.out.2⟩
theorem xpending_any {P : Nat → Prop} (xb : Nat) (D : Doc) (w : World) (hX : XsAt P w xb D) : Calls Try.prog 43 #[.pointer (some ⟨xb, 0, none⟩)] w (OnlyP (.int .i64 (D.l.length : Int)) w) := by
  obtain ⟨na, nc, al, cl, _, _, hcell⟩ := hX.cells
  obtain ⟨c0, c1, c3⟩ := hcell w (Grow.refl w)
  obtain ⟨ll, hll⟩ : ∃ ll, ll = D.l.length := ⟨_, rfl⟩
  rw [← hll] at c3 ⊢
  clear hX hcell c0 c1 hll
  go_enter Try.func43, Try.ntmps43
  go_wp2
  go_ret
  exact ⟨rfl, Below.refl _ _⟩
end Go.Proofs.Yticpldjcmhpjoaa
