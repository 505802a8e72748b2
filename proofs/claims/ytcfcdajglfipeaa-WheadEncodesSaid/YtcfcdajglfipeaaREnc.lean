/-
  The walk of the reference's Encode.
-/
import Derived.Test.YtcfcdajglfipeaaNums
import Derived.Deep.RegionHeld3
namespace Go.Proofs.Ytcfcdajglfipeaa
open Go.RowKit

theorem Grow.trans' {a b c : World} (h : Grow a b) (k : Below (a.heap.size + 1) b c) : Grow a c := Below.trans h (Below.mono k (by omega))

theorem renc_not (g x : Int) (ao : Option Addr) (n c : Nat) (l : List (Int × Int)) (w : World) (h : Hd w ao n c l) (hm : ¬ May g x l) :
    Calls Try.prog 11 #[.agg #[.int .i64 g, .int .i64 x, .slice ao n c]] w fun e w' => e = .returned (.tuple #[.slice none 0 0, .int .i64 1]) ∧ Below w.heap.size w w' := by
  have CH := Lib.hid (may_not h hm)
  clear h hm
  go_enter Try.func11, Try.ntmps11
  go_wp2_with fail
  refine (CH.out _ ((Grow.refl w).alloc _)).mono ?_
  rintro e w1 ⟨rfl, b1⟩
  go_wp2
  refine bodyPost_ret (v := .tuple #[.slice none 0 0, .int .i64 1]) (by simp [results, Try.results11, go_sem]) rfl ?_
  exact ⟨rfl, ((Below.refl _ _).alloc (Nat.le_refl _) _).trans (b1.mono (by simp))⟩

set_option maxHeartbeats 4000000 in
theorem renc_yes (g x : Int) (b o n c : Nat) (l : List (Int × Int)) (w : World) (h : Hd w (some ⟨b, o, none⟩) n c l) (hm : May g x l) :
    Calls Try.prog 11 #[.agg #[.int .i64 g, .int .i64 x, .slice (some ⟨b, o, none⟩) n c]] w fun e w' => ∃ gg cc, e = .returned (.tuple #[.slice (some ⟨gg, 0, none⟩) (16 + 12 * n) cc, .int .i64 0]) ∧
      w'.ownsRow w.heap.size 5 1 (.slice (some ⟨gg, 0, none⟩) (16 + 12 * n) cc) (16 + 12 * n) (hdB g x l) ∧ Below w.heap.size w w' := by
  obtain ⟨i0, hi0, hz0, hz1, hz2⟩ := info_parts Try.info5
  obtain ⟨j0, hj0, hy0, hy1, hy2⟩ := info_parts Try.info3
  have CH := Lib.hid (may_yes h hm)
  have SP : ∀ W, Grow w W → Calls Try.prog 16 #[.agg #[.int .i64 g, .int .i64 x, .slice (some ⟨b, o, none⟩) n c]] W fun e w' => e = .returned (.int .i64 ((last_ l).1 * (last_ l).2)) ∧ Below W.heap.size W w' := fun W hG => rspan_yes g x b o n c l W (h.grow hG) hm
  have OF : ∀ (k : Nat) (W : World), k < n → Grow w W → Calls Try.prog 14 #[.agg #[.int .i64 g, .int .i64 x, .slice (some ⟨b, o, none⟩) n c], .int .i64 k] W fun e w' => e = .returned (.int .i64 (offTo l k)) ∧ Below W.heap.size W w' := fun k W hk hG => roffset_yes g x b o n c k l W (h.grow hG) hm hk
  have HSP := Lib.hid SP
  have HOF := Lib.hid OF
  obtain ⟨n1, n8⟩ := h.ear hm
  obtain ⟨b', o', e, ha⟩ := h.2.2.2 (by omega)
  injection e with e
  injection e with e1 e2 _
  subst e1 e2
  have hb := ha.1
  have HA := Lib.hid ha
  have HN := Lib.hid h.1
  have HM := Lib.hid hm
  have HNS0 := Lib.hid (show nsTo g x l 0 = [g, (last_ l).1 * (last_ l).2, x, n] from by rw [nsTo, ns0, h.1])
  clear h hm ha SP OF
  obtain ⟨L, hL⟩ : ∃ L, L = (last_ l).1 * (last_ l).2 := ⟨_, rfl⟩
  rw [← hL] at HSP HNS0
  clear hL
  go_enter Try.func11, Try.ntmps11
  go_wp2_with fail
  refine (CH.out _ ((Grow.refl w).alloc _)).mono ?_
  rintro e w1 ⟨rfl, b1⟩
  have q0 : w1.cell? ⟨w.heap.size, 0, none⟩ = some (.int .i64 g) := (b1.cell (p := ⟨w.heap.size, 0, none⟩) (by simp)).trans (by simp [go_sem])
  have q1 : w1.cell? ⟨w.heap.size, 1, none⟩ = some (.int .i64 x) := (b1.cell (p := ⟨w.heap.size, 1, none⟩) (by simp)).trans (by simp [go_sem])
  have q2 : w1.cell? ⟨w.heap.size, 2, none⟩ = some (.slice (some ⟨b, o, none⟩) n c) := (b1.cell (p := ⟨w.heap.size, 2, none⟩) (by simp)).trans (by simp [go_sem])
  have g1 : Grow w w1 := ((Grow.refl w).alloc _).trans b1
  have hs1 : w.heap.size + 1 ≤ w1.heap.size := by have := b1.size; simp at this; omega
  clear b1 CH
  go_wp2
  go_region_held3 (fun W => Grow w1 W ∧ W.cell? ⟨w.heap.size, 0, none⟩ = some (.int .i64 g) ∧ W.cell? ⟨w.heap.size, 1, none⟩ = some (.int .i64 x) ∧ W.cell? ⟨w.heap.size, 2, none⟩ = some (.slice (some ⟨b, o, none⟩) n c))
    (first
      | exact ⟨(Grow.refl _).drew, q0, q1, q2⟩
      | exact ⟨(Grow.refl _).drew.trans b2, (Below.cell ((Grow.refl _).drew.trans b2) (p := ⟨w.heap.size, 0, none⟩) hs1).trans q0, (Below.cell ((Grow.refl _).drew.trans b2) (p := ⟨w.heap.size, 1, none⟩) hs1).trans q1, (Below.cell ((Grow.refl _).drew.trans b2) (p := ⟨w.heap.size, 2, none⟩) hs1).trans q2⟩
      | exact ⟨((Grow.refl _).drew.trans b2).alloc _, (Below.cell (((Grow.refl _).drew.trans b2).alloc _) (p := ⟨w.heap.size, 0, none⟩) hs1).trans q0, (Below.cell (((Grow.refl _).drew.trans b2).alloc _) (p := ⟨w.heap.size, 1, none⟩) hs1).trans q1, (Below.cell (((Grow.refl _).drew.trans b2).alloc _) (p := ⟨w.heap.size, 2, none⟩) hs1).trans q2⟩)
    ((go_at_call 16; refine (HSP.out _ g1.drew).mono ?_; rintro e w2 ⟨rfl, b2⟩))
  obtain ⟨W3, hW⟩ : ∃ W3, W3 = w2.alloc (.cells #[.int .i64 g, .int .i64 L, .int .i64 x, .int .i64 (n : Int)] 3) := ⟨_, rfl⟩
  have g2 : Grow w1 W3 := by rw [hW]; exact ((Grow.refl _).drew.trans b2).alloc _
  have hs2 : w1.heap.size ≤ w2.heap.size := by have := b2.size; simpa using this
  have own0 : W3.ownsRow (w.heap.size + 1) 3 1 (.slice (some ⟨w2.heap.size, 0, none⟩) 4 4) (4 + 3 * 0) (ints (nsTo g x l 0)) := by
    rw [hW, HNS0.out]
    exact World.ownsRow_lit (base := w.heap.size + 1) (e := 3) (size := 1) w2 #[.int .i64 g, .int .i64 L, .int .i64 x, .int .i64 (n : Int)] 4 (by omega) (by simp [maxLen]) rfl
  have O0 := Lib.hid own0
  have G2 := Lib.hid g2
  rename_i hHeld
  clear hHeld own0 HNS0 HSP
  rw [← hW]
  clear hW g2
  go_wp2
  go_loopw [4, 5] (fun t i wr => ∃ k : Nat, k ≤ n ∧ i = .int .i64 k ∧ Hid (wr.ownsRow (w.heap.size + 1) 3 1 t (4 + 3 * k) (ints (nsTo g x l k))) ∧ Below (w.heap.size + 1) w1 wr) (fun _ i _ => n - (intOf i).toNat)
  case atStart => exact ⟨0, by omega, rfl, O0, Below.mono G2.out hs1⟩
  case round =>
    clear O0 G2
    obtain ⟨k, hk, rfl, HO, hbel⟩ := hrel
    have r0 := (hbel.cell (p := ⟨w.heap.size, 0, none⟩) (by simp)).trans q0
    have r1 := (hbel.cell (p := ⟨w.heap.size, 1, none⟩) (by simp)).trans q1
    have r2 := (hbel.cell (p := ⟨w.heap.size, 2, none⟩) (by simp)).trans q2
    have hsr : w.heap.size + 1 ≤ wr.heap.size := Nat.le_trans hs1 hbel.size
    by_cases hlt : k < n
    · have hkl : k < l.length := by rw [HN.out]; omega
      have gr : Grow w wr := g1.trans' hbel
      obtain ⟨S, hS⟩ : ∃ S, S = (at_ l k).1 := ⟨_, rfl⟩
      obtain ⟨C, hC⟩ : ∃ C, C = (at_ l k).2 := ⟨_, rfl⟩
      obtain ⟨T, hT⟩ : ∃ T, T = offTo l k := ⟨_, rfl⟩
      have c1 := (Below.cell gr (p := ⟨b, _, none⟩) hb).trans (HA.out.2 k hkl).1
      have c2 := (Below.cell gr (p := ⟨b, _, none⟩) hb).trans (HA.out.2 k hkl).2
      rw [← hS] at c1
      rw [← hC] at c2
      have OK := Lib.hid (HOF.out k)
      rw [← hT] at OK
      have hns : nsTo g x l (k + 1) = nsTo g x l k ++ [T, S, C] := by rw [nsTo, hT, hS, hC]
      have HNS := Lib.hid hns
      have HLT := Lib.hid hlt
      obtain ⟨gt, ct, rfl, hg1, hg2⟩ := HO.out.form (by omega)
      have hbr : b < wr.heap.size := by omega
      have k0 : (0 : Int) ≤ (k : Int) := by omega
      have k1 : (k : Int) < (n : Int) := by omega
      clear hns hS hC hT hkl
      have KB : ∀ W, Grow wr W → W.cell? ⟨w.heap.size, 0, none⟩ = some (.int .i64 g) ∧ W.cell? ⟨w.heap.size, 1, none⟩ = some (.int .i64 x) ∧ W.cell? ⟨w.heap.size, 2, none⟩ = some (.slice (some ⟨b, o, none⟩) n c) ∧
          W.cell? ⟨b, o + k * 2, none⟩ = some (.int .i64 S) ∧ W.cell? ⟨b, o + k * 2 + 1, none⟩ = some (.int .i64 C) := fun W hG =>
        ⟨(Below.cell hG (p := ⟨w.heap.size, 0, none⟩) hsr).trans r0, (Below.cell hG (p := ⟨w.heap.size, 1, none⟩) hsr).trans r1, (Below.cell hG (p := ⟨w.heap.size, 2, none⟩) hsr).trans r2,
          (Below.cell hG (p := ⟨b, _, none⟩) hbr).trans c1, (Below.cell hG (p := ⟨b, _, none⟩) hbr).trans c2⟩
      have KA : ∀ W W', Grow wr W → W.grownBy W' (some gt) → W'.cell? ⟨w.heap.size, 0, none⟩ = some (.int .i64 g) ∧ W'.cell? ⟨w.heap.size, 1, none⟩ = some (.int .i64 x) ∧ W'.cell? ⟨w.heap.size, 2, none⟩ = some (.slice (some ⟨b, o, none⟩) n c) ∧
          W'.cell? ⟨b, o + k * 2, none⟩ = some (.int .i64 S) ∧ W'.cell? ⟨b, o + k * 2 + 1, none⟩ = some (.int .i64 C) := fun W W' hG hgr => by
        obtain ⟨z0, z1, z2, z3, z4⟩ := KB W hG
        have hsz := hG.size
        have f1 : W'.heap[w.heap.size]? = W.heap[w.heap.size]? := hgr.block _ (by omega) (by simp; omega)
        have f2 : W'.heap[b]? = W.heap[b]? := hgr.block _ (by omega) (by simp; omega)
        exact ⟨(World.cell?_of_block (a := ⟨w.heap.size, 0, none⟩) f1).trans z0, (World.cell?_of_block (a := ⟨w.heap.size, 1, none⟩) f1).trans z1, (World.cell?_of_block (a := ⟨w.heap.size, 2, none⟩) f1).trans z2,
          (World.cell?_of_block (a := ⟨b, _, none⟩) f2).trans z3, (World.cell?_of_block (a := ⟨b, _, none⟩) f2).trans z4⟩
      have HKB := Lib.hid KB
      have HKA := Lib.hid KA
      have BS : ∀ W : World, wr.drew.heap.size ≤ W.heap.size → ∀ ob, w.heap.size + 1 ≤ (W.alloc ob).heap.size := fun W h ob => by simp at h ⊢; omega
      have HBS := Lib.hid BS
      have mx : 4 + 3 * k + 3 ≤ maxLen := by unfold maxLen; omega
      have HGR := Lib.hid gr
      clear KB KA BS gr
      go_wp2
      go_region_held3 (fun W => W.cell? ⟨w.heap.size, 0, none⟩ = some (.int .i64 g) ∧ W.cell? ⟨w.heap.size, 1, none⟩ = some (.int .i64 x) ∧ W.cell? ⟨w.heap.size, 2, none⟩ = some (.slice (some ⟨b, o, none⟩) n c) ∧
          W.cell? ⟨b, o + k * 2, none⟩ = some (.int .i64 S) ∧ W.cell? ⟨b, o + k * 2 + 1, none⟩ = some (.int .i64 C))
        (first
          | exact HKB.out _ (Grow.refl _).drew
          | exact HKA.out _ _ (((Grow.refl _).drew.trans b3).alloc _) hgrow4
          | exact HKB.out _ (((Grow.refl _).drew.trans b3).alloc _)
          | exact HKB.out _ ((Grow.refl _).drew.trans b3))
        (first
          | (go_at_call 14; refine (OK.out _ HLT.out HGR.out.drew).mono ?_; rintro e w3 ⟨rfl, b3⟩)
          | (refine step_append_lies _ (by rfl) _ _ _ (by rfl) (w.heap.size + 1) 3 j0 _ 1 8 Try.underlying46 hj0 hy0 hy1 hy2 rfl (by omega) (.slice (some ⟨gt, 0, none⟩) (4 + 3 * k) ct) (4 + 3 * k) (ints (nsTo g x l k)) (by rfl)
              ((own_below (own_below HO.out (Grow.refl _).drew) b3).alloc _) ⟨w3.heap.size, 0, none⟩ 3 3 (ints [T, S, C]) (by rfl) (by rfl)
              (World.news_of_block (cs := #[.int .i64 T, .int .i64 S, .int .i64 C]) (t := 3) (fr := (0, 0)) (heap_alloc_new w3 _)) (ints_one _) (by omega) mx (by omega) (HBS.out _ b3.size _) (w3.heap.size + 1) (by simp) ?_; intro gg4 cp4 w4 hown4 hgrow4 hat4 hlt4))
      have b4 : Below (w.heap.size + 1) w1 w4 := by
        have hq : Grow wr (w3.alloc (.cells #[.int .i64 T, .int .i64 S, .int .i64 C] 3)) := ((Grow.refl _).drew.trans b3).alloc _
        exact ((hbel.trans (Below.mono hq hsr)).grown hgrow4 (Nat.le_trans hsr hq.size) (fun q hq' => by simp [Value.ownBlock] at hq'; omega))
      have hown5 : Hid (w4.ownsRow (w.heap.size + 1) 3 1 (.slice (some ⟨gg4, 0, none⟩) (4 + 3 * k + 3) cp4) (4 + 3 * (k + 1)) (ints (nsTo g x l (k + 1)))) := by
        have e1 : ints (nsTo g x l (k + 1)) = ints (nsTo g x l k) ++ ints [T, S, C] := by rw [HNS.out]; simp [ints]
        show World.ownsRow _ _ _ _ _ _ _
        rw [e1]
        exact hown4
      clear hown4 hgrow4 hat4 HKA HKB
      go_wp2
      go_roundw
      case rel => exact ⟨k + 1, by omega, by go_num, hown5, b4⟩
      case measure => simp [intOf]; omega
    · obtain rfl : k = n := by omega
      go_wp2
      obtain ⟨gt, ct, rfl, hg1, hg2⟩ := HO.out.form (by omega)
      have gW : Grow w wr := g1.trans' hbel
      obtain ⟨ns, hnsd⟩ : ∃ ns, ns = nsTo g x l k := ⟨_, rfl⟩
      have hU : ∀ j, j < 4 + 3 * k → 0 ≤ nth ns j ∧ nth ns j ≤ 4294967295 := fun j hj => by
        rw [hnsd]
        exact nsTo_in HM.out k (by rw [HN.out]; exact Nat.le_refl _) _ (nth_mem (by rw [nsTo_length]; exact hj))
      have hlen : ns.length = 4 + 3 * k := by rw [hnsd, nsTo_length]
      have hcell : ∀ j, j < 4 + 3 * k → wr.cell? ⟨gt, j, none⟩ = some (.int .i64 (nth ns j)) := fun j hj => by
        rw [HO.out.cellAt j (by omega), ← hnsd, ints_at (by omega)]
      have hfin : bytesOf (ns.take (4 + 3 * k)) = hdB g x l := by rw [← hlen, List.take_length, hnsd, hdB, HN.out]
      have HU := Lib.hid hU
      have HL := Lib.hid hlen
      have HC := Lib.hid hcell
      have HF := Lib.hid hfin
      have s0 : wr.ownsRow wr.heap.size 5 1 (.slice none 0 0) (4 * 0) (bytesOf (ns.take 0)) := World.ownsRow_nil _ _ _ _
      have S0 := Lib.hid s0
      clear hU hlen hcell hfin hnsd HO HA HOF hbel r0 r1 r2 q0 q1 q2 g1 hs1 s0
      obtain ⟨WA, hWA⟩ : ∃ WA, WA = wr := ⟨_, rfl⟩
      subst hWA
      go_loopw [6, 7] (fun t i wz => ∃ j : Nat, j ≤ 4 + 3 * k ∧ i = .int .i64 j ∧ Hid (wz.ownsRow WA.heap.size 5 1 t (4 * j) (bytesOf (ns.take j))) ∧ Grow WA wz) (fun _ i _ => 4 + 3 * k - (intOf i).toNat)
      case atStart => exact ⟨0, by omega, rfl, S0, Grow.refl _⟩
      case round =>
        clear S0
        obtain ⟨j, hj, rfl, HZ, hgz⟩ := hrel
        by_cases hjl : j < 4 + 3 * k
        · have cj := (Below.cell hgz (p := ⟨gt, j, none⟩) hg2).trans (HC.out j hjl)
          have tk := bytes_take (ns := ns) (k := j) (by rw [HL.out]; exact hjl)
          obtain ⟨u1, u2⟩ := HU.out j hjl
          obtain ⟨N, hN⟩ : ∃ N, N = nth ns j := ⟨_, rfl⟩
          rw [← hN] at cj tk u1 u2
          have TK := Lib.hid tk
          have mx : 4 * j + 4 ≤ maxLen := by unfold maxLen; omega
          have hbs := hgz.size
          clear hN tk
          go_wp2_with fail
          refine (four_own _ u1 u2 _).mono ?_
          rintro e w5 ⟨g5, rfl, o5, b5⟩
          have O5 := Lib.hid o5
          have P5 := Lib.hid (own_below HZ.out b5)
          have hg5 : Grow WA w5 := hgz.trans b5
          have hb5 : WA.heap.size ≤ w5.heap.size := hg5.size
          clear o5
          go_wp2_with (at_builtin; refine wpList_append_lies _ (by rfl) _ _ _ (by rfl) WA.heap.size 5 i0 _ 1 1 Try.underlying31 hi0 hz0 hz1 hz2 rfl (by omega) _ (4 * j) (bytesOf (ns.take j)) (by rfl) P5.out ⟨g5, 0, none⟩ 4 4 (be4 N) (by rfl) (by rfl) (O5.out.cells rfl) (be4_one _) (by omega) mx (by omega) hb5 w5.heap.size rfl ?_; intro gg6 cp6 w6 hown6 hgrow6 hat6 hlt6; have H6 := Lib.hid (And.intro hown6 (And.intro hgrow6 hat6)); clear hown6 hgrow6 hat6)
          obtain ⟨hown6, hgrow6, _⟩ := H6.out
          have R : Hid (w6.ownsRow WA.heap.size 5 1 (.slice (some ⟨gg6, 0, none⟩) (4 * j + 4) cp6) (4 * (j + 1)) (bytesOf (ns.take (j + 1)))) := by
            show World.ownsRow _ _ _ _ _ _ _
            rw [TK.out]
            exact hown6
          have gz6 : Grow WA w6 := Below.grown hg5 hgrow6 hb5 (fun q hq => (P5.out.lt q hq).1)
          clear hown6 hgrow6 H6 P5 O5 HZ
          go_roundw
          case rel => exact ⟨j + 1, by omega, by go_num, R, gz6⟩
          case measure => simp [intOf]; omega
        · obtain rfl : j = 4 + 3 * k := by omega
          obtain ⟨gz, cz, rfl, _, _⟩ := HZ.out.form (by omega)
          go_wp2
          refine bodyPost_ret (v := .tuple #[.slice (some ⟨gz, 0, none⟩) (4 * (4 + 3 * k)) cz, .int .i64 0]) (by simp [results, Try.results11, go_sem]) rfl ?_
          have HZ2 := HZ.out
          rw [HF.out] at HZ2
          rw [show 4 * (4 + 3 * k) = 16 + 12 * k from by omega] at HZ2 ⊢
          exact ⟨gz, cz, rfl, Joins.ownsRow_le HZ2 gW.size, gW.trans hgz⟩
end Go.Proofs.Ytcfcdajglfipeaa
