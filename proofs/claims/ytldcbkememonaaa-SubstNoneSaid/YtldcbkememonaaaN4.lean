/-
  The walk of class.
-/
import Derived.Test.YtldcbkememonaaaN3
import Derived.Deep.LoopGhost
import Derived.Deep.Cut
import Derived.Deep.CutRange

namespace Go.Proofs.Ytldcbkememonaaa
open Go.RowKit BigFrame
set_option linter.unusedVariables false
set_option linter.unusedSimpArgs false

theorem results58 (tmps : Array Value) (w : World) (g : Nat) (m : Nat → Bool) (b : Bool) (h2 : tmps[2]? = some (.pointer (some ⟨g, 0, none⟩))) (h3 : tmps[3]? = some (.bool b)) (h : Arr w g m) :
    (results Try.f58 tmps).run Try.prog w = .ok (.tuple #[.agg (arrC m), .bool b]) w := by
  have e := run_loadVar_row (P := Try.prog) w g 110 110 (arrC m) (0, 0) _ h und110 rfl (by rw [arrC_size]; exact size110)
  simp [results, Try.results58, h2, h3, asAddr, e]
/-- a world in which there may be more memory -/
structure GW (W : World) where
  u : World
  h : Grow W u
instance (W : World) : Nonempty (GW W) := ⟨⟨W, Grow.refl W⟩⟩
theorem wp_region_grow_lit {P : Program} {id : Nat} {Q : Exit → Act → World → Prop} {a : Act} {w : World} {l : List Oper} (hm : P.follows .mixedOrders = true) (hB : Region.lexB .any l.toArray = true)
    (h : wpQuiet P l.toArray (fun w' => ∃ n : GW w, w' = n.u) (fun a' => ∀ w', (∃ n : GW w, w' = n.u) → Q .normal a' w') l a) : (Code.region id l.toArray true).wp P Q a w :=
  wp_region_quiet (C := fun w' => ∃ n : GW w, w' = n.u) hm hB ⟨⟨_, (Grow.refl w).drew⟩, rfl⟩ (by simpa using h)
theorem quiet_load110 {C : World → Prop} {K : Act → Prop} {a : Act} {o : Oper} (x : Operand) (g : Nat) (m : Nat → Bool) (ho : o.op = .load 110 x) (hx : a.eval x = .pointer (some ⟨g, 0, none⟩)) (hC : ∀ w, C w → Arr w g m)
    (hk : K (a.put o.dst (.agg (arrC m)))) : o.quiet Try.prog a C K := by
  refine ⟨_, fun w hw => ?_, hk⟩
  unfold Oper.quietAt execOp
  simp only [ho, hx, Instr.loadAt, Instr.sureAddr, Sem.run_bind, Sem.run_pure, Result.andThen_ok, run_loadVar_row w g 110 110 (arrC m) (0, 0) _ (hC w hw) und110 rfl (size_arr _)]
  exact ⟨rfl, rfl⟩
theorem wpList_load110 {ops : Array Oper} {rest : List Oper} {o : Oper} {a : Act} {w : World} {Q : Exit → Act → World → Prop} (hw : Region.wanted o (yielded ops a.tmps) = true) (x : Operand) (ho : o.op = .load 110 x)
    (g : Nat) (hx : a.eval x = .pointer (some ⟨g, 0, none⟩)) (m : Nat → Bool) (hA : Arr w g m) (h : wpList Try.prog ops Q rest (a.put o.dst (.agg (arrC m))) w) : wpList Try.prog ops Q (o :: rest) a w :=
  BigFrame.wpList_want hw fun _ hK => wp_load_row 110 x ho g hx 110 (arrC m) (0, 0) _ hA und110 rfl (size_arr _) (hK _ _ h)
/-- the first k of one set, the others of another -/
def mixM (f g : Nat → Bool) (k i : Nat) : Bool := if i < k then f i else g i
theorem mix_set (f g : Nat → Bool) (k : Nat) (b : Bool) (h : b = f k) (j : Nat) : (if j = k then b else mixM f g k j) = mixM f g (k + 1) j := by
  unfold mixM
  by_cases e : j = k
  · subst e; rw [if_pos rfl, if_pos (by omega), h]
  · rw [if_neg e]
    by_cases e2 : j < k
    · rw [if_pos e2, if_pos (by omega)]
    · rw [if_neg e2, if_neg (by omega)]
theorem classTo_stop {s : ByteArray} {k q : Nat} {first : Bool} {m : Nat → Bool} (h : (first || !moreF s q 93) = false) : classTo s (k + 1) first q m = (some m, q) := by
  unfold classTo; rw [if_neg (by rw [h]; decide)]
theorem classTo_go {s : ByteArray} {k q : Nat} {first : Bool} {m : Nat → Bool} (h : (first || !moreF s q 93) = true) : classTo s (k + 1) first q m = match itemF s q with
      | (none, q) => (none, q)
      | (some it, q) =>
        if it.six.isNone && moreF s q 45 && decide (q + 1 < s.size) && !(by_ s (q + 1) == 93) && !sixAtF s (q + 1) then
          match itemF s (q + 1) with
          | (none, q2) => (none, q2)
          | (some it2, q2) => if it2.a < it.a then (none, q2) else classTo s k false q2 (addM m none it.a it2.a)
        else classTo s k false q (addM m it.six it.a it.a) := by
  rw [classTo, if_pos h]
  rfl
theorem mix_here (f g : Nat → Bool) (k : Nat) : mixM f g k k = g k := by unfold mixM; rw [if_neg (by omega)]
set_option maxRecDepth 100000 in
set_option maxHeartbeats 8000000 in
theorem class_any (B r : Nat) (s : ByteArray) (st : RS) (v : Value) (w : World) (h : RA B r s st v w) (hp : st.at_ < s.size) (hs : s.size ≤ 10000) :
    Calls Try.prog 58 #[.pointer (some ⟨r, 0, none⟩)] w (SetPost B r s st v (classF s st.at_) w) := by
  obtain ⟨W1, hW⟩ : ∃ W1, W1 = (w.alloc (.cells Try.zeroCells110 110)).alloc (.cells Try.zeroCells110 110) := ⟨_, rfl⟩
  have a0 : Arr W1 w.heap.size (fun _ => false) := by rw [hW]; exact (Arr.new w).below ((Below.refl (w.heap.size + 1) _).alloc (by simp) _) (by omega)
  have a1 : Arr W1 (w.heap.size + 1) (fun _ => false) := by rw [hW]; have := Arr.new (w.alloc (.cells Try.zeroCells110 110)); simpa using this
  have g1 : Grow w W1 := by rw [hW]; exact ((Grow.refl w).alloc _).alloc _
  have zW : W1.heap.size = w.heap.size + 2 := by rw [hW]; simp
  have h1 := h.grow g1
  have c1 := h1.c1
  have f1 := h1.fz 1
  have hr := h.lt
  have HV := Lib.hid (show ∀ g, v.ownBlock = some g → g < w.heap.size from fun g hg => (h.own.lt g hg).2)
  have H := Lib.hid h
  have HW := Lib.hid hW
  have ZW := Lib.hid zW
  obtain ⟨p, hpp⟩ : ∃ p, p = st.at_ := ⟨_, rfl⟩
  rw [← hpp] at c1 hp ⊢
  have HP := Lib.hid hpp
  have k0 : (0 : Int) ≤ (p : Int) := by omega
  have k2 : (p : Int) ≤ 10000 := by omega
  have e2 : ((p + 1 : Nat) : Int) = (p : Int) + 1 := by omega
  have m2 := moved_set (q := p + 1) h g1
  rw [e2] at m2
  obtain ⟨W2, hW2⟩ : ∃ W2, W2 = W1.setCell ⟨r, 1, none⟩ (.int .i64 ((p : Int) + 1)) := ⟨_, rfl⟩
  rw [← hW2] at m2
  have M2 := Lib.hid m2
  have A1 := Lib.hid (show Arr W2 (w.heap.size + 1) (fun _ => false) from by rw [hW2]; exact a1.far (by omega))
  have A0 := Lib.hid (show Arr W2 w.heap.size (fun _ => false) from by rw [hW2]; exact a0.far (by omega))
  obtain ⟨nt, hnt⟩ : ∃ nt, nt = moreF s (p + 1) 94 := ⟨_, rfl⟩
  have mo := more_any B r s _ v 94 W2 m2.1
  rw [show moreF s ({ st with at_ := p + 1 } : RS).at_ 94 = nt from hnt.symm] at mo
  have MO := Lib.hid mo
  clear mo
  obtain ⟨p1, hp1⟩ : ∃ p1, p1 = if nt then p + 2 else p + 1 := ⟨_, rfl⟩
  have hq1 : p1 ≤ s.size := by
    rw [hp1]
    split
    · rename_i hc
      have := moreF_lt (hnt.symm.trans hc)
      omega
    · omega
  have hq0 : 1 ≤ p1 := by rw [hp1]; split <;> omega
  obtain ⟨RES, hRES⟩ : ∃ RES, RES = classTo s (s.size + 1) true p1 (fun _ => false) := ⟨_, rfl⟩
  obtain ⟨CR, hCR⟩ : ∃ CR, CR = classF s p := ⟨_, rfl⟩
  have hC : CR = match (generalizing := false) RES with
      | (none, q) => (none, q)
      | (some m, q) => (some fun i => m i != nt, q + 1) := by
    rw [hCR]
    unfold classF
    simp only [← hnt, ← hp1, ← hRES]
    rfl
  rw [← hCR]
  have HC := Lib.hid hC
  have HNT := Lib.hid hnt
  have HP1 := Lib.hid hp1
  have HR := Lib.hid hRES
  clear hnt hp1 hRES hC hCR hW a0 a1 g1 h1 h hpp zW m2 e2
  go_enter Try.func58, Try.ntmps58
  go_upto_region 2 with fail
  rw [← HW.out]
  go_upto_region 3 with fail
  rw [← hW2]
  have HW2 := Lib.hid hW2
  clear hW2 c1 f1
  go_wp2_with fail
  refine MO.out.mono ?_
  rintro e w3 ⟨rfl, n3, rfl⟩
  have M3 := Lib.hid (M2.out.grow (below_drewN (Grow.refl W2) n3))
  have A13 := Lib.hid (A1.out.below (below_drewN (Grow.refl W2) n3) A1.out.lt)
  have A03 := Lib.hid (A0.out.below (below_drewN (Grow.refl W2) n3) A0.out.lt)
  have d1 := M3.out.1.c1
  have f1 := M3.out.1.fz 1
  simp only at d1
  rw [show ((p + 1 : Nat) : Int) = (p : Int) + 1 by omega] at d1
  obtain ⟨W3, hW3⟩ : ∃ W3, W3 = W2.drewN n3 := ⟨_, rfl⟩
  rw [← hW3] at M3 A13 A03 d1 f1 ⊢
  clear hW3
  go_upto_if 22 with fail
  go_cut [] from 23 (fun wx => Hid (Moved B r s st v p1 w wx) ∧ Hid (Arr wx (w.heap.size + 1) (fun _ => false)) ∧ Hid (Arr wx w.heap.size (fun _ => false)))
  case first =>
    cases nt with
    | true =>
      go_wp2
      go_meet
      case rel =>
        have e : p1 = p + 2 := by rw [HP1.out]; rfl
        rw [e]
        have e3 : ((p + 2 : Nat) : Int) = (p : Int) + 1 + 1 := by omega
        have m4 := M3.out.two (moved_set (q := p + 2) M3.out.1 (Grow.refl W3))
        rw [e3] at m4
        exact ⟨Lib.hid m4, Lib.hid (A13.out.far (by omega)), Lib.hid (A03.out.far (by omega))⟩
    | false =>
      go_wp2
      go_meet
      case rel =>
        have e : p1 = p + 1 := by rw [HP1.out]; rfl
        rw [e]
        exact ⟨M3, A13, A03⟩
  case rest =>
    obtain ⟨M4, A14, A04⟩ := hcut
    clear M3 A13 A03 d1 f1 M2 A1 A0 MO
    go_wp2
    go_loopg [6] (s.size + 1) (fun k t wr => ∃ (q : Nat) (m : Nat → Bool) (first : Bool), t = .bool first ∧ Hid (classTo s k first q m = RES) ∧ s.size + 1 ≤ k + q ∧ q ≤ s.size ∧ Hid (Moved B r s st v q w wr) ∧ Hid (Arr wr (w.heap.size + 1) m) ∧ Hid (Arr wr w.heap.size (fun _ => false)))
    case atStart => exact ⟨p1, _, true, rfl, Lib.hid HR.out.symm, by omega, hq1, M4, A14, A04⟩
    case round =>
      clear M4 A14 A04
      obtain ⟨q, m, first, rfl, HCT, hkq, hqs, MV, AM, AZ⟩ := hrel
      obtain ⟨k, rfl⟩ : ∃ k, gk = k + 1 := ⟨gk - 1, by omega⟩
      obtain ⟨go, hgo⟩ : ∃ go, go = (first || !moreF s q 93) := ⟨_, rfl⟩
      have HGO := Lib.hid hgo
      have q0 : (0 : Int) ≤ (q : Int) := by omega
      have q2 : (q : Int) ≤ 10000 := by omega
      clear hgo
      go_upto_region 7 with fail
      go_cut [35] from 30 to 140 (fun c wx => c = .bool go ∧ Hid (Moved B r s st v q w wx) ∧ Hid (Arr wx (w.heap.size + 1) m) ∧ Hid (Arr wx w.heap.size (fun _ => false)))
      case first =>
        cases first with
        | true =>
          go_wp2
          go_meet
          case rel =>
            rw [HGO.out]
            exact ⟨rfl, MV, AM, AZ⟩
        | false =>
          have MO := Lib.hid (more_any B r s _ v 93 wr MV.out.1)
          go_wp2_with fail
          refine MO.out.mono ?_
          rintro e w5 ⟨rfl, n5, rfl⟩
          go_wp2
          go_meet
          case rel =>
            rw [HGO.out]
            exact ⟨rfl, Lib.hid (MV.out.grow (below_drewN (Grow.refl wr) n5)), Lib.hid (AM.out.below (below_drewN (Grow.refl wr) n5) AM.out.lt), Lib.hid (AZ.out.below (below_drewN (Grow.refl wr) n5) AZ.out.lt)⟩
      case rest =>
        obtain ⟨rfl, MV5, AM5, AZ5⟩ := hcut
        clear MV AM AZ
        cases go with
        | false =>
          have hCT := HCT.out
          rw [classTo_stop HGO.out.symm] at hCT
          have HCT2 := Lib.hid hCT
          have d1 := MV5.out.1.c1
          have f1 := MV5.out.1.fz 1
          simp only at d1
          have e3 : ((q + 1 : Nat) : Int) = (q : Int) + 1 := by omega
          have m9 := MV5.out.two (moved_set (q := q + 1) MV5.out.1 (Grow.refl wc))
          rw [e3] at m9
          obtain ⟨W9, hW9⟩ : ∃ W9, W9 = wc.setCell ⟨r, 1, none⟩ (.int .i64 ((q : Int) + 1)) := ⟨_, rfl⟩
          rw [← hW9] at m9
          have M9 := Lib.hid m9
          have AM9 := Lib.hid (show Arr W9 (w.heap.size + 1) m from by rw [hW9]; exact AM5.out.far (by omega))
          have AZ9 := Lib.hid (show Arr W9 w.heap.size (fun _ => false) from by rw [hW9]; exact AZ5.out.far (by omega))
          clear hCT m9 e3 HCT MV5 AM5 AZ5
          go_upto_region 23 with fail
          rw [← hW9]
          clear hW9 d1 f1
          go_wp2
          go_loopg [12] 256 (fun g t wr => ∃ i : Nat, i + g = 256 ∧ t = .int .i64 i ∧ Hid (Arr wr (w.heap.size + 1) (mixM (fun j => m j != nt) m i)) ∧ Hid (Arr wr w.heap.size (fun _ => false)) ∧ Hid (Moved B r s st v (q + 1) w wr))
          case atStart => exact ⟨0, by omega, rfl, Lib.hid (AM9.out.congr (fun i _ => by unfold mixM; rw [if_neg (by omega)])), AZ9, M9⟩
          case round =>
            clear M9 AM9 AZ9
            obtain ⟨i, hig, rfl, D1, D0, MVi⟩ := hrel
            have i0 : (0 : Int) ≤ (i : Int) := by omega
            by_cases hlt : i < 256
            · have i1 : (i : Int) < 256 := by omega
              have kc := D1.out.cell hlt
              have kf := D1.out.froz i
              have hl1 := D1.out.lt
              rw [mix_here] at kc
              obtain ⟨bm, hbm⟩ : ∃ bm, bm = m i := ⟨_, rfl⟩
              rw [← hbm] at kc
              have E1 := Lib.hid ((D1.out.set i (bm != nt)).congr (m' := mixM (fun j => m j != nt) m (i + 1)) (fun j _ => mix_set _ _ _ _ (by rw [hbm]) _))
              have E0 := Lib.hid (D0.out.far (r := w.heap.size + 1) (j := i) (x := .bool (bm != nt)) (by omega))
              have M5 := Lib.hid (MVi.out.own (fr_set (G := w.heap.size + 1) (j := i) (x := .bool (bm != nt))) (by omega) hr HV.out)
              clear D1 D0 MVi hbm
              go_wp2
              go_roundg (gk - 1)
              case rel => exact ⟨i + 1, by omega, by go_num, E1, E0, M5⟩
              case measure => omega
            · obtain rfl : i = 256 := by omega
              have SA := Lib.hid (size_arr (mixM (fun j => m j != nt) m 256))
              have OS := Lib.hid (show (arrC fun _ => false).size = (arrC (mixM (fun j => m j != nt) m 256)).size from by rw [arrC_size, arrC_size])
              go_wp2_with (first | (refine wpList_load_row rfl 110 _ rfl (w.heap.size + 1) rfl 110 (arrC (mixM (fun j => m j != nt) m 256)) (0, 0) _ D1.out und110 rfl SA.out ?_) | (refine wpList_store_row rfl 110 _ _ rfl w.heap.size (arrC (mixM (fun j => m j != nt) m 256)) rfl rfl 110 (arrC fun _ => false) D0.out SA.out OS.out (arrC_one _) ?_))
              have M6 := MVi.out.own (fr_row (G := w.heap.size) (m := mixM (fun j => m j != nt) m 256)) (Nat.le_refl _) hr HV.out
              exact bodyPost_ret (v := .tuple #[.agg (arrC (mixM (fun j => m j != nt) m 256)), .bool true]) (results58 _ _ w.heap.size _ _ rfl rfl (D0.out.row _)) rfl (by
                rw [HC.out, ← HCT2.out]
                exact ⟨M6, _, true, rfl, arrC_congr (fun i hi => by unfold mixM; rw [if_pos hi]), rfl⟩)
        | true =>
          have hCT := HCT.out
          rw [classTo_go HGO.out.symm] at hCT
          have it0 := item_any B r s _ v wc MV5.out.1 (by omega)
          rw [show ({ st with at_ := q } : RS).at_ = q from rfl] at it0
          obtain ⟨res, hres⟩ : ∃ res, res = itemF s q := ⟨_, rfl⟩
          rw [← hres] at hCT it0
          have IT := Lib.hid it0
          have HCT2 := Lib.hid hCT
          have HRE := Lib.hid hres
          clear hCT it0 hres HCT
          go_wp2_with fail
          refine IT.out.mono ?_
          rintro e w6 ⟨mv, a, m6, ok, rfl, hm⟩
          have M6 := Lib.hid (MV5.out.two mv)
          have E1 := Lib.hid (AM5.out.fr mv.2 (by omega))
          have E0 := Lib.hid (AZ5.out.fr mv.2 (by omega))
          have z6 : w.heap.size + 1 < w6.heap.size := E1.out.lt
          clear mv IT MV5 AM5 AZ5
          have SA := Lib.hid (size_arr m6)
          have SM := Lib.hid (size_arr m)
          have OS := Lib.hid (show (arrC fun _ => false).size = (arrC m6).size from by rw [arrC_size, arrC_size])
          have OM := Lib.hid (show (arrC fun _ => false).size = (arrC m).size from by rw [arrC_size, arrC_size])
          have AN := Lib.hid (Arr.new w6)
          have E17 := Lib.hid (show Arr ((w6.alloc (.cells Try.zeroCells110 110)).setRow w6.heap.size (arrC m6)) (w.heap.size + 1) m from (setRow_other _ _ _ _ (by omega)).trans ((Below.heap_alloc _ _ _ (by omega)).trans E1.out))
          have E07 := Lib.hid (show Arr ((w6.alloc (.cells Try.zeroCells110 110)).setRow w6.heap.size (arrC m6)) w.heap.size (fun _ => false) from (setRow_other _ _ _ _ (by omega)).trans ((Below.heap_alloc _ _ _ (by omega)).trans E0.out))
          have M7 := Lib.hid ((M6.out.grow ((Grow.refl w6).alloc (.cells Try.zeroCells110 110))).own (fr_row (G := w6.heap.size) (m := m6)) (by omega) hr HV.out)
          obtain ⟨res1, q6⟩ := res
          cases res1 with
          | none =>
            have hok : ok = false := hm
            subst hok
            clear hm
            go_wp2_with (first | (refine wpList_store_row rfl 110 _ _ rfl w6.heap.size (arrC m6) rfl rfl 110 (arrC fun _ => false) AN.out SA.out OS.out (arrC_one _) ?_) | (refine wpList_load_row rfl 110 _ rfl (w.heap.size + 1) rfl 110 (arrC m) (0, 0) _ E17.out und110 rfl SM.out ?_) | (refine wpList_store_row rfl 110 _ _ rfl w.heap.size (arrC m) rfl rfl 110 (arrC fun _ => false) E07.out SM.out OM.out (arrC_one _) ?_))
            have M8 := M7.out.own (fr_row (G := w.heap.size) (m := m)) (Nat.le_refl _) hr HV.out
            exact bodyPost_ret (v := .tuple #[.agg (arrC m), .bool false]) (results58 _ _ w.heap.size _ _ rfl rfl (E07.out.row _)) rfl (by rw [HC.out, ← HCT2.out]; exact ⟨M8, _, false, rfl, rfl⟩)
          | some it =>
            obtain ⟨hqa, hqm, hqo⟩ := hm
            subst hqo hqa hqm
            obtain ⟨h6, ha, h60, hq6, hqq⟩ := item_six_ok s q it q6 HRE.out.symm
            have H6 := Lib.hid h6
            have EQ := Lib.hid (eq_it it h6)
            have A67 := Lib.hid (show Arr ((w6.alloc (.cells Try.zeroCells110 110)).setRow w6.heap.size (arrC (itM it))) w6.heap.size (itM it) from (Arr.new w6).row _)
            obtain ⟨a, hae⟩ : ∃ a, a = it.a := ⟨_, rfl⟩
            rw [← hae] at ha
            have HA := Lib.hid hae
            have H60 := Lib.hid h60
            obtain ⟨W7, hW7⟩ : ∃ W7, W7 = (w6.alloc (.cells Try.zeroCells110 110)).setRow w6.heap.size (arrC (itM it)) := ⟨_, rfl⟩
            go_upto_region 13 with (refine wpList_store_row rfl 110 _ _ rfl w6.heap.size (arrC (itM it)) rfl rfl 110 (arrC fun _ => false) AN.out SA.out OS.out (arrC_one _) ?_)
            rw [← hae, ← hW7]
            rw [← hW7] at E17 E07 M7 A67
            clear h6 hae h60 hW7 OS OM SM E1 E0 M6
            obtain ⟨rng, hrng⟩ : ∃ rng, rng = (it.six.isNone && moreF s q6 45 && decide (q6 + 1 < s.size) && !(by_ s (q6 + 1) == 93) && !sixAtF s (q6 + 1)) := ⟨_, rfl⟩
            have HRNG := Lib.hid hrng
            clear hrng
            go_cut [88] from 30 to 140 (fun c wx => c = .bool rng ∧ Hid (Moved B r s st v q6 w wx) ∧ Hid (Arr wx (w.heap.size + 1) m) ∧ Hid (Arr wx w.heap.size (fun _ => false)) ∧ Hid (Arr wx w6.heap.size (itM it)))
            case first =>
              have GD := guard110
              have c0 : ∀ n : GW W7, n.u.cell? ⟨r, 0, none⟩ = some (.string s) := fun n => (M7.out.1.grow n.h).c0
              have c1 : ∀ n : GW W7, n.u.cell? ⟨r, 1, none⟩ = some (.int .i64 (q6 : Nat)) := fun n => (M7.out.1.grow n.h).c1
              have AL := Lib.hid (show ∀ w', (∃ n : GW W7, w' = n.u) → Arr w' w6.heap.size (itM it) from by rintro _ ⟨n, rfl⟩; exact A67.out.below n.h A67.out.lt)
              cases hsix : it.six.isNone with
              | false =>
                have RE : ∀ w, (Op.equalIn 10000 110 (.agg (arrC (itM it))) (.agg Try.zeroCells110)).run Try.prog w = .ok false w := fun w => by
                  rw [run_eq110z, EQ.out, hsix]
                have HSX := Lib.hid hsix
                clear hsix
                refine wp_region_grow_lit (by kernel_rfl) (by kernel_rfl) ?_
                repeat (first | go_big_quiet_skip | (go_big_quiet_want; first | (refine quiet_load110 _ _ _ rfl rfl AL.out ?_; simp only [Act.put, List.setIfInBounds_toArray, List.set_cons_zero, List.set_cons_succ]; go_big_quiet_on) | (go_big_quiet_op; first | go_big_quiet_on | go_big_quiet_call (fail))))
                refine wpQuiet_nil ?_
                intro _ hw'
                obtain ⟨gw, hw''⟩ := hw'
                subst hw''
                go_wp2
                go_meet
                case rel =>
                  refine ⟨?_, Lib.hid (M7.out.grow gw.h), Lib.hid (E17.out.below gw.h E17.out.lt), Lib.hid (E07.out.below gw.h E07.out.lt), Lib.hid (A67.out.below gw.h A67.out.lt)⟩
                  rw [HRNG.out, HSX.out]; rfl
              | true =>
                have RE : ∀ w, (Op.equalIn 10000 110 (.agg (arrC (itM it))) (.agg Try.zeroCells110)).run Try.prog w = .ok true w := fun w => by
                  rw [run_eq110z, EQ.out, hsix]
                have HSX := Lib.hid hsix
                clear hsix
                obtain ⟨b45, hb45⟩ : ∃ b, b = moreF s q6 45 := ⟨_, rfl⟩
                have MO := Lib.hid (show ∀ n : GW W7, Calls Try.prog 49 #[.pointer (some ⟨r, 0, none⟩), .int .u8 45] n.u (fun e w'' => e = .returned (.bool b45) ∧ ∃ m : GW W7, w'' = m.u) from fun n => by
                  rw [hb45]
                  refine (more_any B r s _ v 45 n.u (M7.out.1.grow n.h)).mono ?_
                  rintro e w'' ⟨rfl, nn, rfl⟩
                  exact ⟨rfl, ⟨_, below_drewN n.h nn⟩, rfl⟩)
                have HB := Lib.hid hb45
                clear hb45
                cases b45 with
                | false =>
                  refine wp_region_grow_lit (by kernel_rfl) (by kernel_rfl) ?_
                  repeat (first | go_big_quiet_skip | (go_big_quiet_want; first | (refine quiet_load110 _ _ _ rfl rfl AL.out ?_; simp only [Act.put, List.setIfInBounds_toArray, List.set_cons_zero, List.set_cons_succ]; go_big_quiet_on) | (go_big_quiet_op; first | go_big_quiet_on | go_big_quiet_call (exact MO.out _))))
                  refine wpQuiet_nil ?_
                  intro _ hw'
                  obtain ⟨gw, hw''⟩ := hw'
                  subst hw''
                  go_wp2
                  go_meet
                  case rel =>
                    refine ⟨?_, Lib.hid (M7.out.grow gw.h), Lib.hid (E17.out.below gw.h E17.out.lt), Lib.hid (E07.out.below gw.h E07.out.lt), Lib.hid (A67.out.below gw.h A67.out.lt)⟩
                    rw [HRNG.out, HSX.out, ← HB.out]; rfl
                | true =>
                  have hlt6 := moreF_lt HB.out.symm
                  have j0 : (0 : Int) ≤ (q6 : Int) := by omega
                  have j1 : (q6 : Int) < (s.size : Int) := by omega
                  have j2 : (q6 : Int) ≤ 10000 := by omega
                  cases hlt7 : decide (q6 + 1 < s.size) with
                  | false =>
                    have j3 : ¬ (q6 : Int) + 1 < (s.size : Int) := by simp at hlt7; omega
                    have HL7 := Lib.hid hlt7
                    clear hlt7
                    refine wp_region_grow_lit (by kernel_rfl) (by kernel_rfl) ?_
                    repeat (first | go_big_quiet_skip | (go_big_quiet_want; first | (refine quiet_load110 _ _ _ rfl rfl AL.out ?_; simp only [Act.put, List.setIfInBounds_toArray, List.set_cons_zero, List.set_cons_succ]; go_big_quiet_on) | (go_big_quiet_op; first | go_big_quiet_on | go_big_quiet_call (exact MO.out _))))
                    refine wpQuiet_nil ?_
                    intro _ hw'
                    obtain ⟨gw, hw''⟩ := hw'
                    subst hw''
                    go_wp2
                    go_meet
                    case rel =>
                      refine ⟨?_, Lib.hid (M7.out.grow gw.h), Lib.hid (E17.out.below gw.h E17.out.lt), Lib.hid (E07.out.below gw.h E07.out.lt), Lib.hid (A67.out.below gw.h A67.out.lt)⟩
                      rw [HRNG.out, HSX.out, ← HB.out, HL7.out]; rfl
                  | true =>
                    have hlt8 : q6 + 1 < s.size := by simpa using hlt7
                    have j3 : (q6 : Int) + 1 < (s.size : Int) := by omega
                    have j4 : (0 : Int) ≤ (q6 : Int) + 1 := by omega
                    obtain ⟨c, hc⟩ : ∃ c, c = by_ s (q6 + 1) := ⟨_, rfl⟩
                    have hcs : s[q6 + 1].toNat = c := by rw [hc, by_at s (q6 + 1) hlt8]
                    have HL7 := Lib.hid hlt7
                    have HC7 := Lib.hid hc
                    clear hlt7 hc
                    cases t93 : (c == 93) with
                    | true =>
                      have n93 : ((c : Int) != 93) = false := by simp at t93; simp [t93]
                      have T93 := Lib.hid t93
                      clear t93
                      refine wp_region_grow_lit (by kernel_rfl) (by kernel_rfl) ?_
                      repeat (first | go_big_quiet_skip | (go_big_quiet_want; first | (refine quiet_load110 _ _ _ rfl rfl AL.out ?_; simp only [Act.put, List.setIfInBounds_toArray, List.set_cons_zero, List.set_cons_succ]; go_big_quiet_on) | (go_big_quiet_op; first | go_big_quiet_on | go_big_quiet_call (exact MO.out _))))
                      refine wpQuiet_nil ?_
                      intro _ hw'
                      obtain ⟨gw, hw''⟩ := hw'
                      subst hw''
                      go_wp2
                      go_meet
                      case rel =>
                        refine ⟨?_, Lib.hid (M7.out.grow gw.h), Lib.hid (E17.out.below gw.h E17.out.lt), Lib.hid (E07.out.below gw.h E07.out.lt), Lib.hid (A67.out.below gw.h A67.out.lt)⟩
                        rw [HRNG.out, HSX.out, ← HB.out, HL7.out, ← HC7.out, T93.out]; rfl
                    | false =>
                      have n93 : ((c : Int) != 93) = true := by simp at t93; simp; omega
                      have T93 := Lib.hid t93
                      clear t93
                      obtain ⟨b6, hb6⟩ : ∃ b, b = sixAtF s (q6 + 1) := ⟨_, rfl⟩
                      have SX := Lib.hid (show ∀ n : GW W7, Calls Try.prog 62 #[.pointer (some ⟨r, 0, none⟩), .int .i64 ((q6 : Int) + 1)] n.u (fun e w'' => e = .returned (.bool b6) ∧ ∃ m : GW W7, w'' = m.u) from fun n => by
                        rw [hb6, show ((q6 : Int) + 1) = ((q6 + 1 : Nat) : Int) from by omega]
                        refine (sixAt_any B r s _ v (q6 + 1) n.u (M7.out.1.grow n.h) (by omega)).mono ?_
                        rintro e w'' ⟨rfl, hg⟩
                        exact ⟨rfl, ⟨_, Below.trans n.h (Below.mono hg n.h.size)⟩, rfl⟩)
                      have HB6 := Lib.hid hb6
                      clear hb6
                      refine wp_region_grow_lit (by kernel_rfl) (by kernel_rfl) ?_
                      repeat (first | go_big_quiet_skip | (go_big_quiet_want; first | (refine quiet_load110 _ _ _ rfl rfl AL.out ?_; simp only [Act.put, List.setIfInBounds_toArray, List.set_cons_zero, List.set_cons_succ]; go_big_quiet_on) | (go_big_quiet_op; first | go_big_quiet_on | go_big_quiet_call (first | exact MO.out _ | exact SX.out _))))
                      refine wpQuiet_nil ?_
                      intro _ hw'
                      obtain ⟨gw, hw''⟩ := hw'
                      subst hw''
                      go_wp2
                      go_meet
                      case rel =>
                        refine ⟨?_, Lib.hid (M7.out.grow gw.h), Lib.hid (E17.out.below gw.h E17.out.lt), Lib.hid (E07.out.below gw.h E07.out.lt), Lib.hid (A67.out.below gw.h A67.out.lt)⟩
                        rw [HRNG.out, HSX.out, ← HB.out, HL7.out, ← HC7.out, T93.out, ← HB6.out]; rfl
            case rest =>
              obtain ⟨rfl, MV8, AM8, AZ8, A88⟩ := hcut
              clear M7 E17 E07 A67 AN
              go_upto_if 88 with fail
              go_cut [10] from 30 to 140 (fun b wx => ∃ (bN q2 : Nat), b = .int .u8 bN ∧ bN < 256 ∧ Hid (classTo s k false q2 (addM m it.six it.a bN) = RES) ∧ q6 ≤ q2 ∧ q2 ≤ s.size ∧ Hid (Moved B r s st v q2 w wx) ∧ Hid (Arr wx (w.heap.size + 1) m) ∧ Hid (Arr wx w.heap.size (fun _ => false)) ∧ Hid (Arr wx w6.heap.size (itM it)))
              case first =>
                cases rng with
                | false =>
                  go_wp2
                  go_meet
                  case rel =>
                    refine ⟨a, q6, rfl, ha, Lib.hid ?_, Nat.le_refl _, hq6, MV8, AM8, AZ8, A88⟩
                    rw [← HCT2.out]
                    simp only [← HRNG.out]
                    rw [HA.out]
                    rfl
                | true =>
                  have hsn : it.six = none := by
                    have := HRNG.out
                    cases hs6 : it.six with
                    | none => rfl
                    | some c => rw [hs6] at this; simp at this
                  have hCT3 := HCT2.out
                  simp only [← HRNG.out] at hCT3
                  rw [if_pos trivial, ← HA.out] at hCT3
                  have hq7 : q6 + 1 ≤ s.size := by
                    have := HRNG.out
                    simp at this
                    omega
                  have d1 := MV8.out.1.c1
                  have f1 := MV8.out.1.fz 1
                  simp only at d1
                  have j0 : (0 : Int) ≤ (q6 : Int) := by omega
                  have j2 : (q6 : Int) ≤ 10000 := by omega
                  have e3 : ((q6 + 1 : Nat) : Int) = (q6 : Int) + 1 := by omega
                  have m9 := MV8.out.two (moved_set (q := q6 + 1) MV8.out.1 (Grow.refl wc))
                  rw [e3] at m9
                  obtain ⟨W9, hW9⟩ : ∃ W9, W9 = wc.setCell ⟨r, 1, none⟩ (.int .i64 ((q6 : Int) + 1)) := ⟨_, rfl⟩
                  rw [← hW9] at m9
                  have M9 := Lib.hid m9
                  have AM9 := Lib.hid (show Arr W9 (w.heap.size + 1) m from by rw [hW9]; exact AM8.out.far (by omega))
                  have AZ9 := Lib.hid (show Arr W9 w.heap.size (fun _ => false) from by rw [hW9]; exact AZ8.out.far (by omega))
                  have A89 := Lib.hid (show Arr W9 w6.heap.size (itM it) from by rw [hW9]; exact A88.out.far (by omega))
                  have it1 := item_any B r s _ v W9 m9.1 (by omega)
                  rw [show ({ st with at_ := q6 + 1 } : RS).at_ = q6 + 1 from rfl] at it1
                  obtain ⟨res, hres⟩ : ∃ res, res = itemF s (q6 + 1) := ⟨_, rfl⟩
                  rw [← hres] at hCT3 it1
                  have IT := Lib.hid it1
                  have HCT3 := Lib.hid hCT3
                  have HRE2 := Lib.hid hres
                  have HSN := Lib.hid hsn
                  clear hCT3 it1 hres HCT2 m9 e3 hsn
                  go_upto_region 15 with fail
                  rw [← hW9]
                  clear hW9 d1 f1
                  go_wp2_with fail
                  refine IT.out.mono ?_
                  rintro e w10 ⟨mv, b, m10, ok, rfl, hm⟩
                  have M10 := Lib.hid (M9.out.two mv)
                  have AM10 := Lib.hid (AM9.out.fr mv.2 (by omega))
                  have AZ10 := Lib.hid (AZ9.out.fr mv.2 (by omega))
                  have A810 := Lib.hid (A89.out.fr mv.2 (by omega))
                  clear mv IT M9 AM9 AZ9 A89 MV8 AM8 AZ8 A88
                  have SM := Lib.hid (size_arr m)
                  have OM := Lib.hid (show (arrC fun _ => false).size = (arrC m).size from by rw [arrC_size, arrC_size])
                  obtain ⟨res1, q2⟩ := res
                  cases res1 with
                  | none =>
                    have hok : ok = false := hm
                    subst hok
                    clear hm
                    go_wp2_with (first | (refine wpList_load_row rfl 110 _ rfl (w.heap.size + 1) rfl 110 (arrC m) (0, 0) _ AM10.out und110 rfl SM.out ?_) | (refine wpList_store_row rfl 110 _ _ rfl w.heap.size (arrC m) rfl rfl 110 (arrC fun _ => false) AZ10.out SM.out OM.out (arrC_one _) ?_))
                    have M11 := M10.out.own (fr_row (G := w.heap.size) (m := m)) (Nat.le_refl _) hr HV.out
                    exact bodyPost_ret (v := .tuple #[.agg (arrC m), .bool false]) (results58 _ _ w.heap.size _ _ rfl rfl (AZ10.out.row _)) rfl (by rw [HC.out, ← HCT3.out]; exact ⟨M11, _, false, rfl, rfl⟩)
                  | some it2 =>
                    obtain ⟨hqa, hqm, hqo⟩ := hm
                    subst hqo hqa hqm
                    obtain ⟨h62, hb2, h602, hq2, hqq2⟩ := item_six_ok s (q6 + 1) it2 q2 HRE2.out.symm
                    obtain ⟨b, hbe⟩ : ∃ b, b = it2.a := ⟨_, rfl⟩
                    rw [← hbe] at hb2
                    have HB2 := Lib.hid hbe
                    rw [← hbe]
                    clear h62 h602 hbe
                    by_cases hba : (b : Int) < (a : Int)
                    · go_wp2_with (first | (refine wpList_load_row rfl 110 _ rfl (w.heap.size + 1) rfl 110 (arrC m) (0, 0) _ AM10.out und110 rfl SM.out ?_) | (refine wpList_store_row rfl 110 _ _ rfl w.heap.size (arrC m) rfl rfl 110 (arrC fun _ => false) AZ10.out SM.out OM.out (arrC_one _) ?_))
                      have M11 := M10.out.own (fr_row (G := w.heap.size) (m := m)) (Nat.le_refl _) hr HV.out
                      exact bodyPost_ret (v := .tuple #[.agg (arrC m), .bool false]) (results58 _ _ w.heap.size _ _ rfl rfl (AZ10.out.row _)) rfl (by
                        rw [HC.out, ← HCT3.out]
                        simp only [← HB2.out]
                        rw [if_pos (by omega)]
                        exact ⟨M11, _, false, rfl, rfl⟩)
                    · go_wp2
                      go_meet
                      case rel =>
                        refine ⟨b, q2, rfl, hb2, Lib.hid ?_, by omega, hq2, M10, AM10, AZ10, A810⟩
                        rw [← HCT3.out]
                        simp only [← HB2.out, HSN.out]
                        rw [if_neg (by omega), HA.out]
              case rest =>
                obtain ⟨bN, q2, rfl, hbN, HCT3, hq62, hq2s, MV9, AM9, AZ9, A89⟩ := hcut
                clear MV8 AM8 AZ8 A88
                obtain ⟨f, hf⟩ : ∃ f, f = addM m it.six it.a bN := ⟨_, rfl⟩
                rw [← hf] at HCT3
                have HF := Lib.hid hf
                clear hf
                go_wp2
                go_loopg [11] 256 (fun g t wr => ∃ i : Nat, i + g = 256 ∧ t = .int .i64 i ∧ Hid (Arr wr (w.heap.size + 1) (mixM f m i)) ∧ Hid (Arr wr w6.heap.size (itM it)) ∧ Hid (Arr wr w.heap.size (fun _ => false)) ∧ Hid (Moved B r s st v q2 w wr))
                case atStart => exact ⟨0, by omega, rfl, Lib.hid (AM9.out.congr (fun i _ => by unfold mixM; rw [if_neg (by omega)])), A89, AZ9, MV9⟩
                case round =>
                  clear MV9 AM9 AZ9 A89
                  obtain ⟨i, hig, rfl, D1, D8, D0, MVi⟩ := hrel
                  have i0 : (0 : Int) ≤ (i : Int) := by omega
                  by_cases hlt : i < 256
                  · have i1 : (i : Int) < 256 := by omega
                    have kc := D1.out.cell hlt
                    have kf := D1.out.froz i
                    have hl1 := D1.out.lt
                    have k8 := D8.out.cell hlt
                    rw [mix_here] at kc
                    obtain ⟨bm, hbm⟩ : ∃ bm, bm = m i := ⟨_, rfl⟩
                    obtain ⟨bs, hbs⟩ : ∃ bs, bs = itM it i := ⟨_, rfl⟩
                    rw [← hbm] at kc
                    rw [← hbs] at k8
                    have STEP := Lib.hid (show ∀ b, b = f i → Hid (Arr (wr.setCell ⟨w.heap.size + 1, i, none⟩ (.bool b)) (w.heap.size + 1) (mixM f m (i + 1))) ∧ Hid (Arr (wr.setCell ⟨w.heap.size + 1, i, none⟩ (.bool b)) w6.heap.size (itM it)) ∧ Hid (Arr (wr.setCell ⟨w.heap.size + 1, i, none⟩ (.bool b)) w.heap.size (fun _ => false)) ∧ Hid (Moved B r s st v q2 w (wr.setCell ⟨w.heap.size + 1, i, none⟩ (.bool b))) from fun b hb =>
                      ⟨Lib.hid ((D1.out.set i b).congr (m' := mixM f m (i + 1)) (fun j _ => mix_set _ _ _ _ hb _)), Lib.hid (D8.out.far (by omega)), Lib.hid (D0.out.far (by omega)), Lib.hid (MVi.out.own (fr_set (G := w.heap.size + 1)) (by omega) hr HV.out)⟩)
                    have HBM := Lib.hid hbm
                    have HBS := Lib.hid hbs
                    clear hbm hbs D1 D0 MVi
                    cases bm with
                    | true =>
                      obtain ⟨E1, E8, E0, M5⟩ := STEP.out true (by rw [HF.out]; unfold addM; rw [← HBM.out]; rfl)
                      clear STEP
                      go_wp2
                      go_roundg (gk - 1)
                      case rel => exact ⟨i + 1, by omega, by go_num, E1, E8, E0, M5⟩
                      case measure => omega
                    | false =>
                      cases bs with
                      | true =>
                        obtain ⟨E1, E8, E0, M5⟩ := STEP.out true (by
                          rw [HF.out]
                          unfold addM
                          rw [← HBM.out]
                          have := HBS.out
                          unfold itM at this
                          cases hs6 : it.six with
                          | none => rw [hs6] at this; cases this
                          | some c => rw [hs6] at this; exact this)
                        clear STEP
                        go_wp2
                        go_roundg (gk - 1)
                        case rel => exact ⟨i + 1, by omega, by go_num, E1, E8, E0, M5⟩
                        case measure => omega
                      | false =>
                        have GD := guard110
                        cases hsix : it.six.isNone with
                        | false =>
                          have RE : ∀ w, (Op.equalIn 10000 110 (.agg (arrC (itM it))) (.agg Try.zeroCells110)).run Try.prog w = .ok false w := fun w => by
                            rw [run_eq110z, EQ.out, hsix]
                          have HSX := Lib.hid hsix
                          clear hsix
                          obtain ⟨E1, E8, E0, M5⟩ := STEP.out false (by
                            rw [HF.out]
                            unfold addM
                            rw [← HBM.out]
                            have := HBS.out
                            unfold itM at this
                            cases hs6 : it.six with
                            | none => have h2 := HSX.out; rw [hs6] at h2; cases h2
                            | some c => rw [hs6] at this; exact this)
                          clear STEP
                          go_wp2_with (go_big_want; refine wp_load_row 110 _ rfl w6.heap.size rfl 110 (arrC (itM it)) (0, 0) _ D8.out und110 rfl (size_arr _) ?_)
                          go_roundg (gk - 1)
                          case rel => exact ⟨i + 1, by omega, by go_num, E1, E8, E0, M5⟩
                          case measure => omega
                        | true =>
                          have RE : ∀ w, (Op.equalIn 10000 110 (.agg (arrC (itM it))) (.agg Try.zeroCells110)).run Try.prog w = .ok true w := fun w => by
                            rw [run_eq110z, EQ.out, hsix]
                          have FI := Lib.hid (show f i = (decide (a ≤ i) && decide (i ≤ bN)) from by
                            rw [HF.out]
                            unfold addM
                            rw [← HBM.out]
                            cases hs6 : it.six with
                            | none => rw [HA.out]; rfl
                            | some c => rw [hs6] at hsix; cases hsix)
                          clear hsix
                          by_cases hge : (a : Int) ≤ (i : Int)
                          · by_cases hle : (i : Int) ≤ (bN : Int)
                            · have FT := Lib.hid (show true = f i from by rw [FI.out, decide_eq_true (by omega), decide_eq_true (by omega)]; rfl)
                              obtain ⟨E1, E8, E0, M5⟩ := STEP.out true FT.out
                              clear STEP
                              go_wp2_with (go_big_want; refine wp_load_row 110 _ rfl w6.heap.size rfl 110 (arrC (itM it)) (0, 0) _ D8.out und110 rfl (size_arr _) ?_)
                              go_roundg (gk - 1)
                              case rel => exact ⟨i + 1, by omega, by go_num, E1, E8, E0, M5⟩
                              case measure => omega
                            · have FT := Lib.hid (show false = f i from by rw [FI.out, decide_eq_true (p := a ≤ i) (by omega), decide_eq_false (by omega)]; rfl)
                              obtain ⟨E1, E8, E0, M5⟩ := STEP.out false FT.out
                              clear STEP
                              go_wp2_with (go_big_want; refine wp_load_row 110 _ rfl w6.heap.size rfl 110 (arrC (itM it)) (0, 0) _ D8.out und110 rfl (size_arr _) ?_)
                              go_roundg (gk - 1)
                              case rel => exact ⟨i + 1, by omega, by go_num, E1, E8, E0, M5⟩
                              case measure => omega
                          · have FT := Lib.hid (show false = f i from by rw [FI.out, decide_eq_false (p := a ≤ i) (by omega)]; rfl)
                            obtain ⟨E1, E8, E0, M5⟩ := STEP.out false FT.out
                            clear STEP
                            go_wp2_with (go_big_want; refine wp_load_row 110 _ rfl w6.heap.size rfl 110 (arrC (itM it)) (0, 0) _ D8.out und110 rfl (size_arr _) ?_)
                            go_roundg (gk - 1)
                            case rel => exact ⟨i + 1, by omega, by go_num, E1, E8, E0, M5⟩
                            case measure => omega
                  · obtain rfl : i = 256 := by omega
                    have DF := Lib.hid (D1.out.congr (m' := f) (fun i hi => by unfold mixM; rw [if_pos hi]))
                    clear D1
                    go_wp2
                    go_roundg k
                    case measure => omega
                    case rel => exact ⟨q2, f, false, rfl, HCT3, by omega, hq2s, MVi, DF, D0⟩
end Go.Proofs.Ytldcbkememonaaa
