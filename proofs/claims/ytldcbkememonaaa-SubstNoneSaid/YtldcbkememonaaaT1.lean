/-
  The walk of stroke.
-/
import Derived.Test.YtldcbkememonaaaA2
import Derived.Test.YtldcbkememonaaaPb
import Derived.Test.YtldcbkememonaaaPa
import Derived.Outline

namespace Go.Proofs.Ytldcbkememonaaa
open Go.RowKit
set_option linter.unusedVariables false
set_option linter.unusedSimpArgs false

theorem arr_loadCells {w : World} {g : Nat} {m : Nat → Bool} (h : Arr w g m) : (loadCellsFrom ⟨g, 0, none⟩ 0 256 #[]).run Try.prog w = .ok (arrC m) w := by
  have := run_loadCells_list (P := Try.prog) w ⟨g, 0, none⟩ (arrC m).toList (fun j v hv => by
    have hadd : (⟨g, 0, none⟩ : Addr).add j = ⟨g, j, none⟩ := by unfold Addr.add; split <;> simp_all
    rw [hadd, cell_of_row _ _ j (arrC m) 110 (0, 0) h]
    simpa using hv)
  have e : (arrC m).toList.length = 256 := by rw [Array.length_toList]; exact arrC_size m
  rw [e] at this
  simpa [loadCells] using this
theorem arr_storeCells {w : World} {g : Nat} {m m' : Nat → Bool} (h : Arr w g m) : (storeCells ⟨g, 0, none⟩ (arrC m').toList 0).run Try.prog w = .ok () (w.setRow g (arrC m')) := by
  have := run_storeVar_row (P := Try.prog) w g 110 110 (arrC m) (arrC m') h (by rw [arrC_size]; exact size110) (by rw [arrC_size, arrC_size]) (arrC_one m')
  have hs : (Try.prog.info? 110).map (·.size) = some 256 := size110
  cases hq : Try.prog.info? 110 with
  | none => simp [hq] at hs
  | some i =>
    have hs' : (arrC m').size = i.size := by rw [arrC_size]; simp [hq] at hs; omega
    simpa [storeVar, sizeOf, typeInfo, hq, Value.cells, hs'] using this
theorem results59 (tmps : Array Value) (w : World) (u : Value) (g : Nat) (m : Nat → Bool) (b : Value) (h2 : tmps[2]? = some u) (h3 : tmps[3]? = some (.pointer (some ⟨g, 0, none⟩))) (h4 : tmps[4]? = some b) (h : Arr w g m) :
    (results Try.f59 tmps).run Try.prog w = .ok (.tuple #[u, .agg (arrC m), b]) w := by
  have e := run_loadVar_row (P := Try.prog) w g 110 110 (arrC m) (0, 0) _ h und110 rfl (by rw [arrC_size]; exact size110)
  simp [results, Try.results59, h2, h3, h4, asAddr, e]
theorem Arr.drew {w : World} {g : Nat} {m : Nat → Bool} (h : Arr w g m) : Arr w.drew g m := h
def nilV : Value := .slice none 0 0
/-- block G alone is written: from the set m0 to the set m -/
structure RG (G : Nat) (m0 m : Nat → Bool) (a b : World) : Prop where
  fr : Fr G nilV a b
  st : Arr a G m → Arr b G m
  go : Arr a G m0 → Arr b G m0 ∨ Arr b G m
theorem RG.refl (G : Nat) (m0 m : Nat → Bool) (w : World) : RG G m0 m w w := ⟨Fr.refl _ _ _, id, .inl⟩
theorem RG.trans (G : Nat) (m0 m : Nat → Bool) (a b c : World) (h : RG G m0 m a b) (k : RG G m0 m b c) : RG G m0 m a c :=
  ⟨h.fr.trans k.fr (fun g hg => by cases hg), fun x => k.st (h.st x), fun x => by
    rcases h.go x with y | y
    · exact k.go y
    · exact .inr (k.st y)⟩
theorem RG.drew (G : Nat) (m0 m : Nat → Bool) (w : World) : RG G m0 m w w.drew := ⟨⟨rfl, rfl, rfl, Nat.le_refl _, fun _ _ _ _ => rfl⟩, id, .inl⟩
theorem RG.row {G : Nat} {m0 m m1 : Nat → Bool} {w : World} (h : Arr w G m1) : RG G m0 m w (w.setRow G (arrC m)) :=
  ⟨⟨rfl, rfl, rfl, by simp, fun k _ hk _ => setRow_other w G k _ hk⟩, fun _ => h.row m, fun _ => .inr (h.row m)⟩
/-- what the four operations leave: the array, a value, the store, a value -/
def phiA (G : Nat) (m : Nat → Bool) (u v : Value) : Nat → Value → World → Prop
  | 0 => fun x _ => x = .agg (arrC m)
  | 1 => fun x _ => x = u
  | 2 => fun _ w => Arr w G m
  | _ => fun x _ => x = v
theorem phiA_stab (G : Nat) (m0 m : Nat → Bool) (u v : Value) (i : Nat) (x : Value) (w w' : World) (hr : RG G m0 m w w') (h : phiA G m u v i x w) : phiA G m u v i x w' := by
  by_cases h2 : i = 2
  · subst h2; exact hr.st h
  · unfold phiA at h ⊢
    split at h <;> simp_all

set_option maxRecDepth 100000 in
set_option maxHeartbeats 1000000 in
theorem stroke_end (B r : Nat) (s : ByteArray) (st : RS) (v : Value) (w : World) (h : RA B r s st v w) (hp : ¬ st.at_ + 1 < s.size) (hs : s.size ≤ 100000) (ha : st.at_ ≤ s.size) :
    Calls Try.prog 59 #[.pointer (some ⟨r, 0, none⟩)] w fun e w' => e = .returned (.tuple #[.int .u8 0, .agg (arrC fun _ => false), .bool false]) ∧ Grow w w' := by
  obtain ⟨W1, hW⟩ : ∃ W1, W1 = (w.alloc (.cells Try.zeroCells110 110)).alloc (.cells Try.zeroCells110 110) := ⟨_, rfl⟩
  have a1 : Arr W1 (w.heap.size + 1) (fun _ => false) := by rw [hW]; have := Arr.new (w.alloc (.cells Try.zeroCells110 110)); simpa using this
  have a0 : Arr W1 w.heap.size (fun _ => false) := by rw [hW]; exact (Arr.new w).below ((Below.refl (w.heap.size + 1) _).alloc (by simp) _) (by omega)
  have g1 : Grow w W1 := by rw [hW]; exact ((Grow.refl w).alloc _).alloc _
  have h1 := h.grow g1
  have c0 := h1.c0
  have c1 := h1.c1
  have A0 := Lib.hid a0
  have A1 := Lib.hid a1
  have G1 := Lib.hid g1
  have HW := Lib.hid hW
  have f1 : ¬ (st.at_ : Int) + 1 < (s.size : Int) := by omega
  have f2 : (s.size : Int) ≤ (st.at_ : Int) + 1 := by omega
  have f3 : (st.at_ : Int) ≤ 100000 := by omega
  have f0 : (0 : Int) ≤ (st.at_ : Int) := by omega
  clear hW a0 a1 g1 h1 h hp
  go_enter Try.func59, Try.ntmps59
  go_wp2_with fail
  rw [← HW.out]
  go_quiet (fail)
  go_wp2
  obtain ⟨W2, hW2⟩ : ∃ W2, W2 = W1.drewN nq := ⟨_, rfl⟩
  have B0 : Arr W2 w.heap.size (fun _ => false) := by rw [hW2]; exact A0.out
  have B1 : Arr W2 (w.heap.size + 1) (fun _ => false) := by rw [hW2]; exact A1.out
  have G2 := Lib.hid (show Grow w W2 from by rw [hW2]; exact below_drewN G1.out nq)
  rw [← hW2]
  clear hW2
  refine wp_region_R' (RG w.heap.size (fun _ => false) (fun _ => false)) (RG.refl _ _ _) (RG.trans _ _ _) (RG.drew _ _ _ _) (phiA w.heap.size (fun _ => false) (.int .u8 0) (.bool false)) (by kernel_rfl) (by kernel_rfl) (phiA_stab _ _ _ _ _) ?_ ?_
  · intro x wq hG
    refine ⟨fun hp => ?_, fun hp => ?_, fun hp => ?_, fun hp => ?_, trivial⟩
    · unfold PStepR
      rw [if_pos (by rfl)]
      intro K hK
      simp only [fillFrom, Act.put, List.setIfInBounds_toArray, List.set_cons_zero, List.set_cons_succ, Nat.reduceAdd] at hK ⊢
      refine wp_load_row 110 _ rfl (w.heap.size + 1) rfl 110 (arrC fun _ => false) (0, 0) _ ((hG.fr.block _ B1.lt (by omega) (by simp [nilV, Value.ownBlock])).trans B1) und110 rfl (size_arr _) ?_
      exact hK _ _ (RG.refl _ _ _ _) rfl
    · unfold PStepR
      rw [if_pos (by rfl)]
      intro K hK
      simp only [fillFrom, Act.put, List.setIfInBounds_toArray, List.set_cons_zero, List.set_cons_succ, Nat.reduceAdd] at hK ⊢
      go_simp
      exact hK _ _ (RG.refl _ _ _ _) rfl
    · have h0 : x 0 = .agg (arrC fun _ => false) := hp.1 rfl
      unfold PStepR
      rw [if_pos (by rfl)]
      intro K hK
      simp only [fillFrom, Act.put, List.setIfInBounds_toArray, List.set_cons_zero, List.set_cons_succ, Nat.reduceAdd, h0] at hK ⊢
      have ar : Arr wq w.heap.size (fun _ => false) := (hG.go B0).elim id id
      refine wp_store_row 110 _ _ rfl w.heap.size (arrC fun _ => false) rfl rfl 110 _ ar (size_arr _) rfl (arrC_one _) ?_
      exact hK undef _ (RG.row ar) (ar.row _)
    · unfold PStepR
      rw [if_pos (by rfl)]
      intro K hK
      simp only [fillFrom, Act.put, List.setIfInBounds_toArray, List.set_cons_zero, List.set_cons_succ, Nat.reduceAdd] at hK ⊢
      go_simp
      exact hK _ _ (RG.refl _ _ _ _) rfl
  · intro x w3 hG hP
    have e0 : x 0 = .agg (arrC fun _ => false) := hP.1
    have e1 : x 1 = .int .u8 0 := hP.2.1
    have e2 : Arr w3 w.heap.size (fun _ => false) := hP.2.2.1
    have e3 : x 3 = .bool false := hP.2.2.2.1
    simp only [fillFrom, Act.put, List.setIfInBounds_toArray, List.set_cons_zero, List.set_cons_succ, Nat.reduceAdd, e0, e1, e3]
    clear hP e0 e1 e3
    have E2 := Lib.hid e2
    have G3 := Lib.hid (Below.trans G2.out (hG.fr.below (Nat.le_refl _) (fun g hg => by cases hg) G2.out.size))
    clear e2 hG
    go_wp2
    exact bodyPost_ret (v := .tuple #[.int .u8 0, .agg (arrC fun _ => false), .bool false]) (results59 _ _ _ w.heap.size _ _ rfl rfl rfl E2.out) rfl ⟨rfl, G3.out⟩
/-! inside -/
/-- the reader moved to a place, new memory besides -/
def Moved (B r : Nat) (s : ByteArray) (st : RS) (v : Value) (q : Nat) (w w' : World) : Prop := RA B r s { st with at_ := q } v w' ∧ Fr r nilV w w'
theorem moved_set {B r q : Nat} {s : ByteArray} {st : RS} {v : Value} {w w1 : World} (h : RA B r s st v w) (hg : Grow w w1) : Moved B r s st v q w (w1.setCell ⟨r, 1, none⟩ (.int .i64 (q : Nat))) := by
  have h1 := h.grow hg
  refine ⟨⟨?_, ?_, h.rB⟩, (show w1.os = w.os from Below.os hg), (show w1.tape = w.tape from Below.tape hg), (show w1.output = w.output from Below.output hg), by simpa using hg.size, fun k hk h2 _ => ?_⟩
  · rw [Go.heap_setCell_same w1 r 1 _ _ _ h1.blk]; rfl
  · refine h1.own.kept (row := some r) ⟨rfl, rfl, rfl, by simp, fun k hk hkr => heap_setCell_other _ _ _ _ (fun e => hkr (by rw [e]))⟩ (.inr h.ne)
  · rw [heap_setCell_other _ _ _ _ h2]; exact Below.block hg k hk
theorem Moved.grow {B r q : Nat} {s : ByteArray} {st : RS} {v : Value} {w w1 w2 : World} (h : Moved B r s st v q w w1) (hg : Grow w1 w2) : Moved B r s st v q w w2 :=
  ⟨h.1.grow hg, h.2.trans (Fr.of_below (v := nilV) hg) (fun g hg => by cases hg)⟩
/-- a block of the call's own was written -/
theorem Moved.own {B r q G : Nat} {s : ByteArray} {st : RS} {v : Value} {w w1 w2 : World} (h : Moved B r s st v q w w1) (hf : Fr G nilV w1 w2) (hG : w.heap.size ≤ G) (hr : r < w.heap.size) (hv : ∀ g, v.ownBlock = some g → g < w.heap.size) : Moved B r s st v q w w2 := by
  have hs := h.2.size
  have hr1 : r < w1.heap.size := by omega
  refine ⟨⟨(hf.block r hr1 (by omega) (by simp [nilV, Value.ownBlock])).trans h.1.blk, ?_, h.1.rB⟩, hf.os.trans h.2.os, hf.tape.trans h.2.tape, hf.output.trans h.2.output, Nat.le_trans hs hf.size, fun k hk h2 h3 => ?_⟩
  · exact h.1.own.kept (row := some G) ⟨hf.os, hf.tape, hf.output, hf.size, fun k hk hkr => hf.block k hk (fun e => hkr (by rw [e])) (by simp [nilV, Value.ownBlock])⟩ (.inr (fun e => by have := hv G e; omega))
  · rw [hf.block k (by omega) (by omega) (by simp [nilV, Value.ownBlock])]; exact h.2.block k hk h2 h3

set_option maxRecDepth 100000 in
set_option maxHeartbeats 2000000 in
theorem stroke_six (B r : Nat) (s : ByteArray) (st : RS) (v : Value) (w : World) (h : RA B r s st v w) (hp : st.at_ + 1 < s.size) (hs : s.size ≤ 100000) (h6 : sixOk (by_ s (st.at_ + 1)) = true) :
    Calls Try.prog 59 #[.pointer (some ⟨r, 0, none⟩)] w fun e w' => e = .returned (.tuple #[.int .u8 0, .agg (arrC (sixM (by_ s (st.at_ + 1)))), .bool true]) ∧ Moved B r s st v (st.at_ + 2) w w' := by
  obtain ⟨W1, hW⟩ : ∃ W1, W1 = (w.alloc (.cells Try.zeroCells110 110)).alloc (.cells Try.zeroCells110 110) := ⟨_, rfl⟩
  have a0 : Arr W1 w.heap.size (fun _ => false) := by rw [hW]; exact (Arr.new w).below ((Below.refl (w.heap.size + 1) _).alloc (by simp) _) (by omega)
  have g1 : Grow w W1 := by rw [hW]; exact ((Grow.refl w).alloc _).alloc _
  have h1 := h.grow g1
  have c0 := h1.c0
  have c1 := h1.c1
  have f1 := h1.fz 1
  have hr := h.lt
  have HV := Lib.hid (show ∀ g, v.ownBlock = some g → g < w.heap.size from fun g hg => (h.own.lt g hg).2)
  have H := Lib.hid h
  have A0 := Lib.hid a0
  have G1 := Lib.hid g1
  have HW := Lib.hid hW
  obtain ⟨p, hpp⟩ : ∃ p, p = st.at_ := ⟨_, rfl⟩
  rw [← hpp] at c1 hp h6 ⊢
  have HP := Lib.hid hpp
  have k1 : (p : Int) + 1 < (s.size : Int) := by omega
  have k0 : (0 : Int) ≤ (p : Int) := by omega
  have k2 : (p : Int) ≤ 100000 := by omega
  have k3 : (0 : Int) ≤ (p : Int) + 1 := by omega
  obtain ⟨c, hc⟩ : ∃ c, c = by_ s (p + 1) := ⟨_, rfl⟩
  have hcs : s[p + 1].toNat = c := by rw [hc, by_at s (p + 1) hp]
  have hc256 : c < 256 := by rw [hc]; exact by_lt _ _
  rw [← hc] at h6 ⊢
  have SY := Lib.hid (fun W => six_yes c hc256 h6 W)
  clear hW a0 g1 h1 h hpp hc h6
  go_enter Try.func59, Try.ntmps59
  go_wp2
  rw [← HW.out]
  go_quiet (fail)
  generalize nq = nq0
  go_wp2
  go_quiet (fail)
  go_wp2_with fail
  refine (SY.out _).mono ?_
  rintro e w5 ⟨rfl, b5⟩
  have e2 : ((p + 2 : Nat) : Int) = (p : Int) + 2 := by omega
  have m4 := moved_set (q := p + 2) H.out (below_drewN G1.out (nq0 + nq))
  rw [e2] at m4
  have m5 := m4.grow b5
  have a5 : Arr w5 w.heap.size (fun _ => false) := Arr.below (w := (W1.drewN (nq0 + nq)).setCell ⟨r, 1, none⟩ (.int .i64 ((p : Int) + 2))) ((heap_setCell_other _ _ _ _ (by show w.heap.size ≠ r; omega)).trans A0.out) b5 (by have := A0.out.lt; simpa using this)
  have N5 := Lib.hid (Arr.new w5)
  have M5 := Lib.hid m5
  have A5 := Lib.hid a5
  have z5 : w.heap.size < w5.heap.size := a5.lt
  have SA := Lib.hid (size_arr (sixM c))
  have OS := Lib.hid (show (arrC fun _ => false).size = (arrC (sixM c)).size from by rw [arrC_size, arrC_size])
  clear m4 m5 a5 b5 c0 c1 f1 e2
  go_wp2_with (refine wpList_store_row rfl 110 _ _ rfl w5.heap.size (arrC (sixM c)) rfl rfl 110 (arrC fun _ => false) N5.out SA.out OS.out (arrC_one _) ?_)
  obtain ⟨W6, hW6⟩ : ∃ W6, W6 = (w5.alloc (.cells Try.zeroCells110 110)).setRow w5.heap.size (arrC (sixM c)) := ⟨_, rfl⟩
  have g56 : Grow w5 W6 := by rw [hW6]; exact below_row ((Grow.refl w5).alloc _) _
  have B0 : Arr W6 w.heap.size (fun _ => false) := A5.out.below g56 z5
  have B1 : Arr W6 w5.heap.size (sixM c) := by rw [hW6]; exact N5.out.row _
  have M6 := Lib.hid (M5.out.grow g56)
  rw [← hW6]
  clear hW6 g56
  refine wp_region_R' (RG w.heap.size (fun _ => false) (sixM c)) (RG.refl _ _ _) (RG.trans _ _ _) (RG.drew _ _ _ _) (phiA w.heap.size (sixM c) (.int .u8 0) (.bool true)) (by kernel_rfl) (by kernel_rfl) (phiA_stab _ _ _ _ _) ?_ ?_
  · intro x wq hG
    refine ⟨fun hp => ?_, fun hp => ?_, fun hp => ?_, fun hp => ?_, trivial⟩
    · unfold PStepR
      rw [if_pos (by rfl)]
      intro K hK
      simp only [fillFrom, Act.put, List.setIfInBounds_toArray, List.set_cons_zero, List.set_cons_succ, Nat.reduceAdd] at hK ⊢
      refine wp_load_row 110 _ rfl (w5.heap.size) rfl 110 (arrC (sixM c)) (0, 0) _ ((hG.fr.block _ B1.lt (by omega) (by simp [nilV, Value.ownBlock])).trans B1) und110 rfl (size_arr _) ?_
      exact hK _ _ (RG.refl _ _ _ _) rfl
    · unfold PStepR
      rw [if_pos (by rfl)]
      intro K hK
      simp only [fillFrom, Act.put, List.setIfInBounds_toArray, List.set_cons_zero, List.set_cons_succ, Nat.reduceAdd] at hK ⊢
      go_simp
      exact hK _ _ (RG.refl _ _ _ _) rfl
    · have h0 : x 0 = .agg (arrC (sixM c)) := hp.1 rfl
      unfold PStepR
      rw [if_pos (by rfl)]
      intro K hK
      simp only [fillFrom, Act.put, List.setIfInBounds_toArray, List.set_cons_zero, List.set_cons_succ, Nat.reduceAdd, h0] at hK ⊢
      rcases hG.go B0 with ar | ar
      · refine wp_store_row 110 _ _ rfl (w.heap.size) (arrC (sixM c)) rfl rfl 110 _ ar (size_arr _) (by rw [arrC_size, arrC_size]) (arrC_one _) ?_
        exact hK undef _ (RG.row ar) (ar.row _)
      · refine wp_store_row 110 _ _ rfl (w.heap.size) (arrC (sixM c)) rfl rfl 110 _ ar (size_arr _) rfl (arrC_one _) ?_
        exact hK undef _ (RG.row ar) (ar.row _)
    · unfold PStepR
      rw [if_pos (by rfl)]
      intro K hK
      simp only [fillFrom, Act.put, List.setIfInBounds_toArray, List.set_cons_zero, List.set_cons_succ, Nat.reduceAdd] at hK ⊢
      go_simp
      exact hK _ _ (RG.refl _ _ _ _) rfl
  · intro x w9 hG hP
    have e0 : x 0 = .agg (arrC (sixM c)) := hP.1
    have e1 : x 1 = .int .u8 0 := hP.2.1
    have e2 : Arr w9 (w.heap.size) (sixM c) := hP.2.2.1
    have e3 : x 3 = .bool true := hP.2.2.2.1
    simp only [fillFrom, Act.put, List.setIfInBounds_toArray, List.set_cons_zero, List.set_cons_succ, Nat.reduceAdd, e0, e1, e3]
    clear hP e0 e1 e3
    have M9 := Lib.hid (M6.out.own hG.fr (Nat.le_refl _) hr HV.out)
    have E2 := Lib.hid e2
    clear e2 hG
    go_wp2
    exact bodyPost_ret (v := .tuple #[.int .u8 0, .agg (arrC (sixM c)), .bool true]) (results59 _ _ _ w.heap.size _ _ rfl rfl rfl E2.out) rfl ⟨rfl, M9.out⟩
/-- what region 9's eight operations leave -/
def phiW (G c : Nat) : Nat → Value → World → Prop
  | 0 => fun x _ => x = .int .u8 (c : Nat)
  | 1 => fun x _ => x = .agg (arrC fun _ => false)
  | 2 => fun x _ => x = .int .u8 (c : Nat)
  | 3 => fun x _ => x = .bool (wordB c)
  | 4 => fun x _ => x = .bool (!wordB c)
  | 5 => fun x _ => x = .int .u8 (c : Nat)
  | 6 => fun _ w => Arr w G (fun _ => false)
  | _ => fun x _ => x = .bool (!wordB c)
theorem phiW_stab (G c : Nat) (i : Nat) (x : Value) (w w' : World) (hr : RG G (fun _ => false) (fun _ => false) w w') (h : phiW G c i x w) : phiW G c i x w' := by
  by_cases h2 : i = 6
  · subst h2; exact hr.st h
  · unfold phiW at h ⊢
    split at h <;> simp_all

set_option maxRecDepth 100000 in
set_option maxHeartbeats 2000000 in
theorem stroke_byte (B r : Nat) (s : ByteArray) (st : RS) (v : Value) (w : World) (h : RA B r s st v w) (hp : st.at_ + 1 < s.size) (hs : s.size ≤ 100000) (h6 : sixOk (by_ s (st.at_ + 1)) = false) :
    Calls Try.prog 59 #[.pointer (some ⟨r, 0, none⟩)] w fun e w' => e = .returned (.tuple #[.int .u8 (by_ s (st.at_ + 1) : Nat), .agg (arrC fun _ => false), .bool (!wordB (by_ s (st.at_ + 1)))]) ∧ Moved B r s st v (st.at_ + 2) w w' := by
  obtain ⟨W1, hW⟩ : ∃ W1, W1 = (w.alloc (.cells Try.zeroCells110 110)).alloc (.cells Try.zeroCells110 110) := ⟨_, rfl⟩
  have a0 : Arr W1 w.heap.size (fun _ => false) := by rw [hW]; exact (Arr.new w).below ((Below.refl (w.heap.size + 1) _).alloc (by simp) _) (by omega)
  have g1 : Grow w W1 := by rw [hW]; exact ((Grow.refl w).alloc _).alloc _
  have h1 := h.grow g1
  have c0 := h1.c0
  have c1 := h1.c1
  have f1 := h1.fz 1
  have hr := h.lt
  have HV := Lib.hid (show ∀ g, v.ownBlock = some g → g < w.heap.size from fun g hg => (h.own.lt g hg).2)
  have H := Lib.hid h
  have A0 := Lib.hid a0
  have A1 := Lib.hid (show Arr W1 (w.heap.size + 1) (fun _ => false) from by rw [hW]; have := Arr.new (w.alloc (.cells Try.zeroCells110 110)); simpa using this)
  have G1 := Lib.hid g1
  have HW := Lib.hid hW
  obtain ⟨p, hpp⟩ : ∃ p, p = st.at_ := ⟨_, rfl⟩
  rw [← hpp] at c1 hp h6 ⊢
  have HP := Lib.hid hpp
  have k1 : (p : Int) + 1 < (s.size : Int) := by omega
  have k0 : (0 : Int) ≤ (p : Int) := by omega
  have k2 : (p : Int) ≤ 100000 := by omega
  have k3 : (0 : Int) ≤ (p : Int) + 1 := by omega
  obtain ⟨c, hc⟩ : ∃ c, c = by_ s (p + 1) := ⟨_, rfl⟩
  have hcs : s[p + 1].toNat = c := by rw [hc, by_at s (p + 1) hp]
  have hc256 : c < 256 := by rw [hc]; exact by_lt _ _
  rw [← hc] at h6 ⊢
  have SY := Lib.hid (fun W => six_no c hc256 h6 W)
  clear hW a0 g1 h1 h hpp hc h6
  go_enter Try.func59, Try.ntmps59
  go_wp2
  rw [← HW.out]
  go_quiet (fail)
  generalize nq = nq0
  go_wp2
  go_quiet (fail)
  go_wp2_with fail
  refine (SY.out _).mono ?_
  rintro e w5 ⟨rfl, b5⟩
  have e2 : ((p + 2 : Nat) : Int) = (p : Int) + 2 := by omega
  have m4 := moved_set (q := p + 2) H.out (below_drewN G1.out (nq0 + nq))
  rw [e2] at m4
  have m5 := m4.grow b5
  have a5 : Arr w5 w.heap.size (fun _ => false) := Arr.below (w := (W1.drewN (nq0 + nq)).setCell ⟨r, 1, none⟩ (.int .i64 ((p : Int) + 2))) ((heap_setCell_other _ _ _ _ (by show w.heap.size ≠ r; omega)).trans A0.out) b5 (by have := A0.out.lt; simpa using this)
  have a6 : Arr w5 (w.heap.size + 1) (fun _ => false) := Arr.below (w := (W1.drewN (nq0 + nq)).setCell ⟨r, 1, none⟩ (.int .i64 ((p : Int) + 2))) ((heap_setCell_other _ _ _ _ (by show w.heap.size + 1 ≠ r; omega)).trans A1.out) b5 (by have := A1.out.lt; simpa using this)
  have A6 := Lib.hid a6
  have z6 := a6.lt
  have N5 := Lib.hid (Arr.new w5)
  have M5 := Lib.hid m5
  have A5 := Lib.hid a5
  have z5 : w.heap.size < w5.heap.size := a5.lt
  have SA := Lib.hid (size_arr (fun _ => false))
  have WD := Lib.hid (fun W => word_any c hc256 W)
  clear m4 m5 a5 a6 b5 c0 c1 f1 e2
  go_wp2_with (refine wpList_store_row rfl 110 _ _ rfl w5.heap.size (arrC fun _ => false) rfl rfl 110 (arrC fun _ => false) N5.out SA.out rfl (arrC_one _) ?_)
  obtain ⟨W6, hW6⟩ : ∃ W6, W6 = (w5.alloc (.cells Try.zeroCells110 110)).setRow w5.heap.size (arrC fun _ => false) := ⟨_, rfl⟩
  have g56 : Grow w5 W6 := by rw [hW6]; exact below_row ((Grow.refl w5).alloc _) _
  have B0 : Arr W6 w.heap.size (fun _ => false) := A5.out.below g56 z5
  have B1 : Arr W6 (w.heap.size + 1) (fun _ => false) := A6.out.below g56 z6
  have M6 := Lib.hid (M5.out.grow g56)
  rw [← hW6]
  clear hW6 g56
  refine wp_region_R' (RG w.heap.size (fun _ => false) (fun _ => false)) (RG.refl _ _ _) (RG.trans _ _ _) (RG.drew _ _ _ _) (phiW w.heap.size c) (by kernel_rfl) (by kernel_rfl) (phiW_stab _ _) ?_ ?_
  · intro x wq hG
    refine ⟨fun hp => ?_, fun hp => ?_, fun hp => ?_, fun hp => ?_, fun hp => ?_, fun hp => ?_, fun hp => ?_, fun hp => ?_, trivial⟩
    · unfold PStepR
      rw [if_pos (by rfl)]
      intro K hK
      simp only [fillFrom, Act.put, List.setIfInBounds_toArray, List.set_cons_zero, List.set_cons_succ, Nat.reduceAdd] at hK ⊢
      go_simp
      exact hK _ _ (RG.refl _ _ _ _) rfl
    · unfold PStepR
      rw [if_pos (by rfl)]
      intro K hK
      simp only [fillFrom, Act.put, List.setIfInBounds_toArray, List.set_cons_zero, List.set_cons_succ, Nat.reduceAdd] at hK ⊢
      refine wp_load_row 110 _ rfl (w.heap.size + 1) rfl 110 (arrC fun _ => false) (0, 0) _ ((hG.fr.block _ B1.lt (by omega) (by simp [nilV, Value.ownBlock])).trans B1) und110 rfl (size_arr _) ?_
      exact hK _ _ (RG.refl _ _ _ _) rfl
    · unfold PStepR
      rw [if_pos (by rfl)]
      intro K hK
      simp only [fillFrom, Act.put, List.setIfInBounds_toArray, List.set_cons_zero, List.set_cons_succ, Nat.reduceAdd] at hK ⊢
      go_simp
      exact hK _ _ (RG.refl _ _ _ _) rfl
    · have h2 : x 2 = .int .u8 (c : Nat) := hp.1 rfl
      unfold PStepR
      rw [if_pos (by rfl)]
      intro K hK
      simp only [fillFrom, Act.put, List.setIfInBounds_toArray, List.set_cons_zero, List.set_cons_succ, Nat.reduceAdd, h2] at hK ⊢
      go_simp
      refine (WD.out wq).mono ?_
      rintro e w' ⟨rfl, rfl⟩
      exact hK _ _ (RG.refl _ _ _ _) rfl
    · have h3 : x 3 = .bool (wordB c) := hp.1 rfl
      unfold PStepR
      rw [if_pos (by rfl)]
      intro K hK
      simp only [fillFrom, Act.put, List.setIfInBounds_toArray, List.set_cons_zero, List.set_cons_succ, Nat.reduceAdd, h3] at hK ⊢
      go_simp
      exact hK _ _ (RG.refl _ _ _ _) rfl
    · have h0 : x 0 = .int .u8 (c : Nat) := hp.1 rfl
      unfold PStepR
      rw [if_pos (by rfl)]
      intro K hK
      simp only [fillFrom, Act.put, List.setIfInBounds_toArray, List.set_cons_zero, List.set_cons_succ, Nat.reduceAdd, h0] at hK ⊢
      go_simp
      exact hK _ _ (RG.refl _ _ _ _) rfl
    · have h1 : x 1 = .agg (arrC fun _ => false) := hp.1 rfl
      unfold PStepR
      rw [if_pos (by rfl)]
      intro K hK
      simp only [fillFrom, Act.put, List.setIfInBounds_toArray, List.set_cons_zero, List.set_cons_succ, Nat.reduceAdd, h1] at hK ⊢
      have ar : Arr wq w.heap.size (fun _ => false) := (hG.go B0).elim id id
      refine wp_store_row 110 _ _ rfl w.heap.size (arrC fun _ => false) rfl rfl 110 _ ar (size_arr _) rfl (arrC_one _) ?_
      exact hK undef _ (RG.row ar) (ar.row _)
    · have h4 : x 4 = .bool (!wordB c) := hp.1 rfl
      unfold PStepR
      rw [if_pos (by rfl)]
      intro K hK
      simp only [fillFrom, Act.put, List.setIfInBounds_toArray, List.set_cons_zero, List.set_cons_succ, Nat.reduceAdd, h4] at hK ⊢
      go_simp
      exact hK _ _ (RG.refl _ _ _ _) rfl
  · intro x w9 hG hP
    have e0 : x 0 = .int .u8 (c : Nat) := hP.1
    have e1 : x 1 = .agg (arrC fun _ => false) := hP.2.1
    have e2 : x 2 = .int .u8 (c : Nat) := hP.2.2.1
    have e3 : x 3 = .bool (wordB c) := hP.2.2.2.1
    have e4 : x 4 = .bool (!wordB c) := hP.2.2.2.2.1
    have e5 : x 5 = .int .u8 (c : Nat) := hP.2.2.2.2.2.1
    have e6 : Arr w9 w.heap.size (fun _ => false) := hP.2.2.2.2.2.2.1
    have e7 : x 7 = .bool (!wordB c) := hP.2.2.2.2.2.2.2.1
    simp only [fillFrom, Act.put, List.setIfInBounds_toArray, List.set_cons_zero, List.set_cons_succ, Nat.reduceAdd, e0, e1, e2, e3, e4, e5, e7]
    clear hP e0 e1 e2 e3 e4 e5 e7
    have M9 := Lib.hid (M6.out.own hG.fr (Nat.le_refl _) hr HV.out)
    have E6 := Lib.hid e6
    clear e6 hG
    go_wp2
    exact bodyPost_ret (v := .tuple #[.int .u8 (c : Nat), .agg (arrC fun _ => false), .bool (!wordB c)]) (results59 _ _ _ w.heap.size _ _ rfl rfl rfl E6.out) rfl ⟨rfl, M9.out⟩
end Go.Proofs.Ytldcbkememonaaa
