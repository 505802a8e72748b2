/-
  The walk of the document's Read.
-/
import Derived.Test.YticpldjcmhpjoaaQm

namespace Go.Proofs.Yticpldjcmhpjoaa
open Go.RowKit
set_option linter.unusedVariables false
set_option linter.unusedSimpArgs false

theorem holds_sub {P : Nat → Prop} {a : Option Addr} {c : Nat} {l : List UInt8} {w : World} (h : BytesIn P w (.slice a l.length c) l) (i n : Nat) (hi : i + n ≤ l.length) :
    (a = none → Lib.HoldsBytes w (.slice none 0 0) ((l.drop i).take n)) ∧ (∀ g, a = some ⟨g, 0, none⟩ → ∀ cc, (c = i → Lib.HoldsBytes w (.slice (some ⟨g, 0, none⟩) n cc) ((l.drop i).take n)) ∧ (¬ c = i → Lib.HoldsBytes w (.slice (some ⟨g, i, none⟩) n cc) ((l.drop i).take n))) := by
  have hn : ((l.drop i).take n).length = n := by simp; omega
  rcases h with ⟨hv, rfl⟩ | ⟨g', c', hv, h2, _, hlc⟩
  · injection hv with hv1 hv2 hv3
    subst hv1
    refine ⟨fun _ => ?_, (fun g hg => (by cases hg))⟩
    simp only [List.length_nil] at hi
    obtain rfl : n = 0 := by omega
    exact ⟨none, 0, by simp, (fun _ => by simp), (fun a h => (by cases h))⟩
  · injection hv with hv1 hv2 hv3
    subst hv1
    refine ⟨(fun hg => (by cases hg)), fun g hg cc => ?_⟩
    injection hg with hg
    injection hg with hg
    subst hg
    refine ⟨fun hci => ?_, fun hci => ?_⟩
    · have n0 : n = 0 := by omega
      subst n0
      exact ⟨some ⟨g', 0, none⟩, cc, by simp, (fun h => (by cases h)), fun a _ j x hx => by simp at hx⟩
    · refine ⟨some ⟨g', i, none⟩, cc, by rw [hn], (fun h => (by cases h)), fun a ha j x hx => ?_⟩
      injection ha with ha
      subst ha
      have hj : j < n := by have := (List.getElem?_eq_some_iff.1 hx).1; rwa [hn] at this
      rw [List.getElem?_take, if_pos hj, List.getElem?_drop] at hx
      rw [add_plain]
      exact h2 _ _ hx
set_option maxRecDepth 20000 in
set_option maxHeartbeats 4000000 in
theorem xread_any {P : Nat → Prop} (xb : Nat) (D : Doc) (s : ByteArray) (at_ n : Int) (w : World) (hX : XsAt P w xb D) (hG : Good D) (hnl : D.now.length ≤ 100000) (b1 : -9223372036854775808 ≤ at_ ∧ at_ ≤ 9223372036854775807) (b2 : -9223372036854775808 ≤ n ∧ n ≤ 9223372036854775807) :
    Calls Try.prog 39 #[.pointer (some ⟨xb, 0, none⟩), .string s, .int .i64 at_, .int .i64 n] w (ReadP (readD D s at_ n) w) := by
  have nilOwn : ∀ w' : World, OwnL w.heap.size w' (.slice none 0 0) [] := fun w' => ⟨rfl, .inl ⟨rfl, rfl⟩⟩
  have NO := Lib.hid nilOwn
  have IS := Lib.hid (is_any s)
  have HX := Lib.hid hX
  obtain ⟨na, nc, al, cl, hF, hnc, hcell⟩ := hX.cells
  obtain ⟨nn, hnn⟩ : ∃ nn, nn = D.now.length := ⟨_, rfl⟩
  rw [← hnn] at hF hnc hcell
  have HC := Lib.hid hcell
  have FN := Lib.hid (fun (W : World) (hW : Grow w W) => findr_any _ D.now s W (hF.keep (stand_grow hW)) (by omega))
  have hOk := hG.runs.last
  obtain ⟨c0, c1, c3⟩ := hcell w (Grow.refl w)
  unfold readD
  cases hb : isB s with
  | false =>
    have e9 : findD D s = ([], 1) := by unfold findD; rw [hb]; rfl
    rw [e9]
    simp only [show ¬ ((1 : Int) = 0) from by omega, if_false]
    clear e9
    rw [hb] at IS
    clear hX hF hcell hG hb hOk hnn hnl hnc nilOwn
    go_enter Try.func39, Try.ntmps39
    go_wp2_with fail
    refine (FN.out _ (Grow.refl _)).mono ?_
    rintro _ w3 ⟨rfl, g3⟩
    have G3 := Lib.hid (show Grow w w3 from g3)
    clear g3
    go_wp2_with fail
    refine (IS.out _).mono ?_
    rintro _ w2 ⟨rfl, rfl⟩
    go_wp2
    refine bodyPost_ret (v := .tuple #[.slice none 0 0, .int .i64 1]) (by simp [results, Try.results39, go_sem]) rfl ?_
    exact ⟨_, rfl, NO.out _, G3.out⟩
  | true =>
    rw [hb] at IS
    cases hlk : look D.now s with
    | none =>
      have e9 : findD D s = ([], 5) := by unfold findD; rw [hb, hlk]; rfl
      rw [e9]
      simp only [show ¬ ((5 : Int) = 0) from by omega, if_false]
      clear e9
      rw [idx_look hlk] at FN
      clear hX hF hcell hG hb hOk hnn hnl hnc hlk nilOwn
      go_enter Try.func39, Try.ntmps39
      go_wp2_with fail
      refine (FN.out _ (Grow.refl _)).mono ?_
      rintro _ w3 ⟨rfl, g3⟩
      have G3 := Lib.hid (show Grow w w3 from g3)
      clear g3
      go_wp2_with fail
      refine (IS.out _).mono ?_
      rintro _ w2 ⟨rfl, rfl⟩
      go_wp2
      refine bodyPost_ret (v := .tuple #[.slice none 0 0, .int .i64 5]) (by simp [results, Try.results39, go_sem]) rfl ?_
      exact ⟨_, rfl, NO.out _, G3.out⟩
    | some b =>
      have e9 : findD D s = (b, 0) := by unfold findD; rw [hb, hlk]; rfl
      rw [e9, if_pos rfl]
      clear e9
      obtain ⟨k, hk, hkb⟩ := idx_found hOk.nodup hlk
      rw [hk] at FN
      have hkn : k < nn := by rw [hnn]; exact (List.getElem?_eq_some_iff.1 hkb).1
      have hkn' : (k : Int) < (nn : Int) := by omega
      have hk0 : ¬ (k : Int) < 0 := by omega
      have hsm := (hOk.small hG.room) _ _ hlk
      have CB := Lib.hid (fun (W : World) (hW : Grow w W) => (hF.keep (stand_grow hW)).at k _ hkb)
      obtain ⟨bl, hbl⟩ : ∃ bl, bl = b.length := ⟨_, rfl⟩
      have HBL := Lib.hid hbl
      obtain ⟨R, hR⟩ : ∃ R, R = readL b at_ n := ⟨_, rfl⟩
      simp only
      rw [← hR]
      unfold readL at hR
      rw [← hbl] at hsm hR
      have HR := Lib.hid hR
      clear hX hF hcell hG hb hOk hnn hnl hnc hlk hk hkb hbl hR nilOwn
      have OPEN := Lib.hid (show ∀ (W : World), Grow w W → ∃ g ab cb, na = some ⟨g, 0, none⟩ ∧ W.cell? ⟨g, k * 2 + 1, none⟩ = some (.slice ab bl cb) ∧ Hid (BytesIn P W (.slice ab b.length cb) b) ∧ ((ab = none ∧ bl = 0 ∧ cb = 0) ∨ ∃ g, ab = some ⟨g, 0, none⟩ ∧ bl ≤ cb) from fun W hW => by
        obtain ⟨g, bv, h1, h2, _, h3⟩ := CB.out W hW
        simp only at h2
        obtain ⟨ab, cb, hbv⟩ := h2.shape
        subst hbv
        refine ⟨g, ab, cb, h1, by rw [HBL.out]; exact h3, Lib.hid h2, ?_⟩
        rcases h2 with ⟨hv, hl0⟩ | ⟨g', c', hv, _, _, hlc⟩
        · injection hv with hv1 hv2 hv3
          exact .inl ⟨hv1, by rw [HBL.out, hl0]; rfl, hv3⟩
        · injection hv with hv1 hv2 hv3
          exact .inr ⟨g', hv1, by rw [HBL.out, hv3]; exact hlc⟩)
      by_cases c1 : at_ < 0
      · rw [if_neg (by omega)] at HR
        go_enter Try.func39, Try.ntmps39
        go_wp2_with fail
        refine (FN.out _ (Grow.refl _)).mono ?_
        rintro _ w3 ⟨rfl, g3⟩
        have G3 := Lib.hid (show Grow w w3 from g3)
        clear g3
        go_wp2_with fail
        refine (IS.out _).mono ?_
        rintro _ w2 ⟨rfl, rfl⟩
        go_wp2
        refine bodyPost_ret (v := .tuple #[.slice none 0 0, .int .i64 1]) (by simp [results, Try.results39, go_sem]) rfl ?_
        rw [HR.out]
        exact ⟨_, rfl, NO.out _, G3.out⟩
      · by_cases c2 : n < 0
        · rw [if_neg (by omega)] at HR
          go_enter Try.func39, Try.ntmps39
          go_wp2_with fail
          refine (FN.out _ (Grow.refl _)).mono ?_
          rintro _ w3 ⟨rfl, g3⟩
          have G3 := Lib.hid (show Grow w w3 from g3)
          clear g3
          go_wp2_with fail
          refine (IS.out _).mono ?_
          rintro _ w2 ⟨rfl, rfl⟩
          go_wp2
          refine bodyPost_ret (v := .tuple #[.slice none 0 0, .int .i64 1]) (by simp [results, Try.results39, go_sem]) rfl ?_
          rw [HR.out]
          exact ⟨_, rfl, NO.out _, G3.out⟩
        · obtain ⟨i, rfl⟩ := Int.eq_ofNat_of_zero_le (show 0 ≤ at_ by omega)
          obtain ⟨m, rfl⟩ := Int.eq_ofNat_of_zero_le (show 0 ≤ n by omega)
          by_cases c3 : (bl : Int) < (i : Int)
          · rw [if_neg (by omega)] at HR
            go_enter Try.func39, Try.ntmps39
            go_wp2_with fail
            refine (FN.out _ (Grow.refl _)).mono ?_
            rintro _ w3 ⟨rfl, g3⟩
            have G3 := Lib.hid (show Grow w w3 from g3)
            clear g3
            go_wp2_with fail
            refine (IS.out _).mono ?_
            rintro _ w2 ⟨rfl, rfl⟩
            obtain ⟨g, ab, cb, hna, r1, hbb, hsh⟩ := OPEN.out _ G3.out
            obtain ⟨d0, d1, d3⟩ := HC.out _ G3.out
            subst hna
            clear hbb hsh
            go_wp2
            refine bodyPost_ret (v := .tuple #[.slice none 0 0, .int .i64 1]) (by simp [results, Try.results39, go_sem]) rfl ?_
            rw [HR.out]
            exact ⟨_, rfl, NO.out _, G3.out⟩
          · have hwr : IntKind.i64.wrap ((bl : Int) - (i : Int)) = (bl : Int) - (i : Int) := IntWalk.i64_in _ (by omega)
            by_cases c4 : (bl : Int) - (i : Int) < (m : Int)
            · rw [if_neg (by omega)] at HR
              go_enter Try.func39, Try.ntmps39
              go_wp2_with fail
              refine (FN.out _ (Grow.refl _)).mono ?_
              rintro _ w3 ⟨rfl, g3⟩
              have G3 := Lib.hid (show Grow w w3 from g3)
              clear g3
              go_wp2_with fail
              refine (IS.out _).mono ?_
              rintro _ w2 ⟨rfl, rfl⟩
              obtain ⟨g, ab, cb, hna, r1, hbb, hsh⟩ := OPEN.out _ G3.out
              obtain ⟨d0, d1, d3⟩ := HC.out _ G3.out
              subst hna
              clear hbb hsh
              go_wp2
              refine bodyPost_ret (v := .tuple #[.slice none 0 0, .int .i64 1]) (by simp [results, Try.results39, go_sem]) rfl ?_
              rw [HR.out]
              exact ⟨_, rfl, NO.out _, G3.out⟩
            · rw [if_pos (by omega)] at HR
              have hwr2 : IntKind.i64.wrap ((i : Int) + (m : Int)) = (i : Int) + (m : Int) := IntWalk.i64_in _ (by omega)
              have him : i + m ≤ bl := by omega
              have himb : i + m ≤ b.length := by rw [← HBL.out]; exact him
              have hlen9 : ((b.drop i).take m).length = m := by simp; omega
              go_enter Try.func39, Try.ntmps39
              go_wp2_with fail
              refine (FN.out _ (Grow.refl _)).mono ?_
              rintro _ w3 ⟨rfl, g3⟩
              have G3 := Lib.hid (show Grow w w3 from g3)
              clear g3
              go_wp2_with fail
              refine (IS.out _).mono ?_
              rintro _ w2 ⟨rfl, rfl⟩
              obtain ⟨g, ab, cb, hna, r1, hbb, hsh⟩ := OPEN.out _ G3.out
              obtain ⟨d0, d1, d3⟩ := HC.out _ G3.out
              subst hna
              have q1 : (w2.alloc (.cells #[] 5)).cell? ⟨xb, 1, none⟩ = some (.slice (some ⟨g, 0, none⟩) nn nc) := (World.cell?_alloc_lt _ _ _ (by have := lt_of_cell d1; simpa using this)).trans d1
              have q2 : (w2.alloc (.cells #[] 5)).cell? ⟨g, k * 2 + 1, none⟩ = some (.slice ab bl cb) := (World.cell?_alloc_lt _ _ _ (by have := lt_of_cell r1; simpa using this)).trans r1
              have SB := holds_sub hbb.out i m himb
              rcases hsh with ⟨rfl, hk0', rfl⟩ | ⟨g7, rfl, hkc⟩
              · have HSUB := SB.1 rfl
                have i0 : i = 0 := by omega
                have m0 : m = 0 := by omega
                subst i0
                subst m0
                subst hk0'
                clear SB
                obtain ⟨g6, c6, w6, r6, o6, hc6, g26⟩ := app_fresh (w := w2) HSUB (by rw [hlen9]; omega)
                rw [hlen9] at r6 hc6
                have FIN := Lib.hid (And.intro o6 (G3.out.trans2 g26))
                have Z := G3.out.size
                clear o6 g26 HSUB hbb himb
                go_wp2_with ((at_builtin; refine wpList_appR r6 (by rfl) _ _ (by rfl) (by rfl) (by first | rfl | simp [Act.eval] | simp [Act.eval, hci]) ?_))
                refine bodyPost_ret (v := .tuple #[.slice (some ⟨g6, 0, none⟩) 0 c6, .int .i64 0]) (by simp [results, Try.results39, go_sem]) rfl ?_
                rw [HR.out]
                refine ⟨.slice (some ⟨g6, 0, none⟩) 0 c6, rfl, ?_, FIN.out.2⟩
                have := FIN.out.1.weaken Z
                rw [hlen9] at this
                simpa using this
              · by_cases hci : cb = i
                · have HSUB := (SB.2 g7 rfl (cb - i)).1 hci
                  clear SB
                  subst hci
                  obtain ⟨g6, c6, w6, r6, o6, hc6, g26⟩ := app_fresh (w := w2) HSUB (by rw [hlen9]; omega)
                  rw [hlen9] at r6 hc6
                  have FIN := Lib.hid (And.intro o6 (G3.out.trans2 g26))
                  have Z := G3.out.size
                  clear o6 g26 HSUB hbb himb
                  go_wp2_with ((at_builtin; refine wpList_appR r6 (by rfl) _ _ (by rfl) (by rfl) (by first | rfl | simp [Act.eval] | simp [Act.eval, hci]) ?_))
                  refine bodyPost_ret (v := .tuple #[.slice (some ⟨g6, 0, none⟩) m c6, .int .i64 0]) (by simp [results, Try.results39, go_sem]) rfl ?_
                  rw [HR.out]
                  refine ⟨.slice (some ⟨g6, 0, none⟩) m c6, rfl, ?_, FIN.out.2⟩
                  have := FIN.out.1.weaken Z
                  rw [hlen9] at this
                  simpa using this
                · have HSUB := (SB.2 g7 rfl (cb - i)).2 hci
                  clear SB
                  obtain ⟨g6, c6, w6, r6, o6, hc6, g26⟩ := app_fresh (w := w2) HSUB (by rw [hlen9]; omega)
                  rw [hlen9] at r6 hc6
                  have FIN := Lib.hid (And.intro o6 (G3.out.trans2 g26))
                  have Z := G3.out.size
                  clear o6 g26 HSUB hbb himb
                  go_wp2_with ((at_builtin; refine wpList_appR r6 (by rfl) _ _ (by rfl) (by rfl) (by first | rfl | simp [Act.eval] | simp [Act.eval, hci]) ?_))
                  refine bodyPost_ret (v := .tuple #[.slice (some ⟨g6, 0, none⟩) m c6, .int .i64 0]) (by simp [results, Try.results39, go_sem]) rfl ?_
                  rw [HR.out]
                  refine ⟨.slice (some ⟨g6, 0, none⟩) m c6, rfl, ?_, FIN.out.2⟩
                  have := FIN.out.1.weaken Z
                  rw [hlen9] at this
                  simpa using this
end Go.Proofs.Yticpldjcmhpjoaa
