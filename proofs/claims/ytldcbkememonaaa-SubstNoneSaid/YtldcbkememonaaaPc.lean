/-
  The contract of stroke; the walk of sixAt. / The walk of item.
-/
import Derived.Test.YtldcbkememonaaaT1
namespace Go.Proofs.Ytldcbkememonaaa
open Go.RowKit
set_option linter.unusedVariables false
set_option linter.unusedSimpArgs false

/-- the set of an item -/
def itM (it : It) : Nat → Bool := match it.six with | some d => sixM d | none => fun _ => false
/-- what stroke and item answer -/
def ItPost (B r : Nat) (s : ByteArray) (st : RS) (v : Value) (res : Option It × Nat) (w : World) (e : Ending) (w' : World) : Prop :=
  Moved B r s st v res.2 w w' ∧ ∃ (a : Nat) (m : Nat → Bool) (ok : Bool), e = .returned (.tuple #[.int .u8 a, .agg (arrC m), .bool ok]) ∧
    (match res.1 with | some it => a = it.a ∧ m = itM it ∧ ok = true | none => ok = false)
theorem Moved.stay {B r : Nat} {s : ByteArray} {st : RS} {v : Value} {w w' : World} (h : RA B r s st v w) (hg : Grow w w') : Moved B r s st v st.at_ w w' := ⟨h.grow hg, Fr.of_below hg⟩

theorem stroke_any (B r : Nat) (s : ByteArray) (st : RS) (v : Value) (w : World) (h : RA B r s st v w) (hs : s.size ≤ 100000) (ha : st.at_ ≤ s.size) :
    Calls Try.prog 59 #[.pointer (some ⟨r, 0, none⟩)] w (ItPost B r s st v (strokeF s st.at_) w) := by
  by_cases hp : st.at_ + 1 < s.size
  · cases h6 : sixOk (by_ s (st.at_ + 1)) with
    | true =>
      refine (stroke_six B r s st v w h hp hs h6).mono ?_
      rintro e w' ⟨rfl, hm⟩
      have e : strokeF s st.at_ = (some ⟨0, some (by_ s (st.at_ + 1)), st.at_ + 2⟩, st.at_ + 2) := by simp [strokeF, hp, h6]
      rw [e]
      exact ⟨hm, 0, sixM (by_ s (st.at_ + 1)), true, rfl, rfl, rfl, rfl⟩
    | false =>
      refine (stroke_byte B r s st v w h hp hs h6).mono ?_
      rintro e w' ⟨rfl, hm⟩
      cases hw : wordB (by_ s (st.at_ + 1)) with
      | true =>
        have e : strokeF s st.at_ = (none, st.at_ + 2) := by simp [strokeF, hp, h6, hw]
        rw [e]
        exact ⟨hm, by_ s (st.at_ + 1), _, false, rfl, rfl⟩
      | false =>
        have e : strokeF s st.at_ = (some ⟨by_ s (st.at_ + 1), none, st.at_ + 2⟩, st.at_ + 2) := by simp [strokeF, hp, h6, hw]
        rw [e]
        exact ⟨hm, by_ s (st.at_ + 1), _, true, rfl, rfl, rfl, rfl⟩
  · refine (stroke_end B r s st v w h hp hs ha).mono ?_
    rintro e w' ⟨rfl, hg⟩
    have e : strokeF s st.at_ = (none, st.at_) := by simp [strokeF, hp]
    rw [e]
    exact ⟨Moved.stay h hg, 0, _, false, rfl, rfl⟩

theorem sixAt_end (B r : Nat) (s : ByteArray) (st : RS) (v : Value) (i : Nat) (w : World) (h : RA B r s st v w) (hi : i ≤ 100000) (hp : ¬ i + 1 < s.size) :
    Calls Try.prog 62 #[.pointer (some ⟨r, 0, none⟩), .int .i64 i] w fun e w' => e = .returned (.bool false) ∧ Grow w w' := by
  have c0 := h.c0
  have k1 : ¬ (i : Int) + 1 < (s.size : Int) := by omega
  have k2 : (s.size : Int) ≤ (i : Int) + 1 := by omega
  have k0 : (0 : Int) ≤ (i : Int) := by omega
  have k3 : (i : Int) ≤ 100000 := by omega
  clear h hp hi
  go_enter Try.func62, Try.ntmps62
  go_wp2
  go_ret
  exact ⟨rfl, Grow.refl _⟩

theorem sixAt_no (B r : Nat) (s : ByteArray) (st : RS) (v : Value) (i : Nat) (w : World) (h : RA B r s st v w) (hi : i ≤ 100000) (hp : i + 1 < s.size) (h92 : by_ s i ≠ 92) :
    Calls Try.prog 62 #[.pointer (some ⟨r, 0, none⟩), .int .i64 i] w fun e w' => e = .returned (.bool false) ∧ Grow w w' := by
  have c0 := h.c0
  have k1 : (i : Int) + 1 < (s.size : Int) := by omega
  have k0 : (0 : Int) ≤ (i : Int) := by omega
  have k3 : (i : Int) ≤ 100000 := by omega
  have k4 : (i : Int) < (s.size : Int) := by omega
  have k5 : i < s.size := by omega
  obtain ⟨b, hb⟩ : ∃ b, b = by_ s i := ⟨_, rfl⟩
  have hbs : s[i].toNat = b := by rw [hb, by_at s i k5]
  rw [← hb] at h92
  have t1 : ((b : Int) == 92) = false := by simp; omega
  have t2 : ((b : Int) != 92) = true := by simp; omega
  clear h hp hi h92 hb
  go_enter Try.func62, Try.ntmps62
  go_wp2
  go_ret
  exact ⟨rfl, Grow.refl _⟩

set_option maxRecDepth 100000 in
theorem sixAt_yes (B r : Nat) (s : ByteArray) (st : RS) (v : Value) (i : Nat) (w : World) (h : RA B r s st v w) (hi : i ≤ 100000) (hp : i + 1 < s.size) (h92 : by_ s i = 92) :
    Calls Try.prog 62 #[.pointer (some ⟨r, 0, none⟩), .int .i64 i] w fun e w' => e = .returned (.bool (sixOk (by_ s (i + 1)))) ∧ Grow w w' := by
  have c0 := h.c0
  have k1 : (i : Int) + 1 < (s.size : Int) := by omega
  have k0 : (0 : Int) ≤ (i : Int) := by omega
  have k3 : (i : Int) ≤ 100000 := by omega
  have k4 : (i : Int) < (s.size : Int) := by omega
  have k5 : i < s.size := by omega
  have k6 : (0 : Int) ≤ (i : Int) + 1 := by omega
  have hbs : s[i].toNat = 92 := by rw [← h92, by_at s i k5]
  obtain ⟨c, hc⟩ : ∃ c, c = by_ s (i + 1) := ⟨_, rfl⟩
  have hcs : s[i + 1].toNat = c := by rw [hc, by_at s (i + 1) hp]
  have hc256 : c < 256 := by rw [hc]; exact by_lt _ _
  rw [← hc]
  obtain ⟨m, sx⟩ : ∃ m, ∀ W, Calls Try.prog 63 #[.int .u8 c] W fun e w' => e = .returned (.tuple #[.agg (arrC m), .bool (sixOk c)]) ∧ Below W.heap.size W w' := by
    cases h6 : sixOk c with
    | true => exact ⟨_, fun W => six_yes c hc256 h6 W⟩
    | false => exact ⟨_, fun W => six_no c hc256 h6 W⟩
  have SX := Lib.hid sx
  clear h h92 hc sx
  go_enter Try.func62, Try.ntmps62
  go_wp2_with fail
  refine (SX.out _).mono ?_
  rintro e w5 ⟨rfl, b5⟩
  have B5 := Lib.hid b5
  have N5 := Lib.hid (Arr.new w5)
  have SA := Lib.hid (size_arr m)
  have OS := Lib.hid (show (arrC fun _ => false).size = (arrC m).size from by rw [arrC_size, arrC_size])
  clear b5 SX
  go_wp2_with (refine wpList_store_row rfl 110 _ _ rfl w5.heap.size (arrC m) rfl rfl 110 (arrC fun _ => false) N5.out SA.out OS.out (arrC_one _) ?_)
  go_ret
  exact ⟨rfl, below_row (Below.alloc B5.out B5.out.size _) _ B5.out.size⟩

theorem sixAt_any (B r : Nat) (s : ByteArray) (st : RS) (v : Value) (i : Nat) (w : World) (h : RA B r s st v w) (hi : i ≤ 100000) :
    Calls Try.prog 62 #[.pointer (some ⟨r, 0, none⟩), .int .i64 i] w fun e w' => e = .returned (.bool (sixAtF s i)) ∧ Grow w w' := by
  by_cases hp : i + 1 < s.size
  · by_cases h92 : by_ s i = 92
    · have e : sixAtF s i = sixOk (by_ s (i + 1)) := by simp [sixAtF, hp, h92]
      rw [e]; exact sixAt_yes B r s st v i w h hi hp h92
    · have e : sixAtF s i = false := by simp [sixAtF, h92]
      rw [e]; exact sixAt_no B r s st v i w h hi hp h92
  · have e : sixAtF s i = false := by simp [sixAtF, hp]
    rw [e]; exact sixAt_end B r s st v i w h hi hp
end Go.Proofs.Ytldcbkememonaaa

namespace Go.Proofs.Ytldcbkememonaaa
open Go.RowKit
set_option linter.unusedVariables false
set_option linter.unusedSimpArgs false

theorem results61 (tmps : Array Value) (w : World) (u : Value) (g : Nat) (m : Nat → Bool) (b : Value) (h2 : tmps[2]? = some u) (h3 : tmps[3]? = some (.pointer (some ⟨g, 0, none⟩))) (h4 : tmps[4]? = some b) (h : Arr w g m) :
    (results Try.f61 tmps).run Try.prog w = .ok (.tuple #[u, .agg (arrC m), b]) w := by
  have e := run_loadVar_row (P := Try.prog) w g 110 110 (arrC m) (0, 0) _ h und110 rfl (by rw [arrC_size]; exact size110)
  simp [results, Try.results61, h2, h3, h4, asAddr, e]
theorem Moved.from {B r q : Nat} {s : ByteArray} {st : RS} {v : Value} {w w1 w2 : World} (hg : Grow w w1) (h : Moved B r s st v q w1 w2) : Moved B r s st v q w w2 :=
  ⟨h.1, (Fr.of_below (r := r) (v := nilV) hg).trans h.2 (fun g hg => by cases hg)⟩

set_option maxRecDepth 100000 in
set_option maxHeartbeats 2000000 in
theorem item_end (B r : Nat) (s : ByteArray) (st : RS) (v : Value) (w : World) (h : RA B r s st v w) (hp : ¬ st.at_ < s.size) :
    Calls Try.prog 61 #[.pointer (some ⟨r, 0, none⟩)] w fun e w' => e = .returned (.tuple #[.int .u8 0, .agg (arrC fun _ => false), .bool false]) ∧ Grow w w' := by
  obtain ⟨W1, hW⟩ : ∃ W1, W1 = (w.alloc (.cells Try.zeroCells110 110)).alloc (.cells Try.zeroCells110 110) := ⟨_, rfl⟩
  have a1 : Arr W1 (w.heap.size + 1) (fun _ => false) := by rw [hW]; have := Arr.new (w.alloc (.cells Try.zeroCells110 110)); simpa using this
  have a0 : Arr W1 w.heap.size (fun _ => false) := by rw [hW]; exact (Arr.new w).below ((Below.refl (w.heap.size + 1) _).alloc (by simp) _) (by omega)
  have g1 : Grow w W1 := by rw [hW]; exact ((Grow.refl w).alloc _).alloc _
  have h1 := h.grow g1
  have c0 := h1.c0
  have c1 := h1.c1
  have f1 := h1.fz 1
  have hr := h.lt
  have HV := Lib.hid (show ∀ g, v.ownBlock = some g → g < w.heap.size from fun g hg => (h.own.lt g hg).2)
  have H := Lib.hid h
  have H1 := Lib.hid h1
  have A0 := Lib.hid a0
  have A1 := Lib.hid a1
  have G1 := Lib.hid g1
  have HW := Lib.hid hW
  have k1 : ¬ (st.at_ : Int) < (s.size : Int) := by omega
  have k2 : (s.size : Int) ≤ (st.at_ : Int) := by omega
  have k3 : decide (s.size ≤ st.at_) = true := by simp; omega
  clear hW a0 a1 g1 h1 h hp
  go_enter Try.func61, Try.ntmps61
  go_wp2
  rw [← HW.out]
  go_quiet (fail)
  go_wp2
  obtain ⟨W6, hW6⟩ : ∃ W6, W6 = W1.drewN nq := ⟨_, rfl⟩
  have B0 : Arr W6 w.heap.size (fun _ => false) := by rw [hW6]; exact A0.out
  have B1 : Arr W6 (w.heap.size + 1) (fun _ => false) := by rw [hW6]; exact A1.out
  have G6 := Lib.hid (show Grow w W6 from by rw [hW6]; exact below_drewN G1.out nq)
  rw [← hW6]
  clear hW6
  refine wp_region_R' (RG w.heap.size (fun _ => false) (fun _ => false)) (RG.refl _ _ _) (RG.trans _ _ _) (RG.drew _ _ _ _) (phiA w.heap.size (fun _ => false) (.int .u8 0) (.bool false)) (by kernel_rfl) (by kernel_rfl) (phiA_stab _ _ _ _ _) ?_ ?_
  · intro x wq hG
    refine ⟨fun hp => ?_, fun hp => ?_, fun hp => ?_, fun hp => ?_, trivial⟩
    · unfold PStepR
      rw [if_pos (by rfl)]
      intro K hK
      simp only [fillFrom, Act.put, List.setIfInBounds_toArray, List.set_cons_zero, List.set_cons_succ, Nat.reduceAdd] at hK ⊢
      refine wp_load_row 110 _ rfl (w.heap.size + 1) rfl 110 (arrC (fun _ => false)) (0, 0) _ ((hG.fr.block _ B1.lt (by omega) (by simp [nilV, Value.ownBlock])).trans B1) und110 rfl (size_arr _) ?_
      exact hK _ _ (RG.refl _ _ _ _) rfl
    · unfold PStepR
      rw [if_pos (by rfl)]
      intro K hK
      simp only [fillFrom, Act.put, List.setIfInBounds_toArray, List.set_cons_zero, List.set_cons_succ, Nat.reduceAdd] at hK ⊢
      go_simp
      exact hK _ _ (RG.refl _ _ _ _) rfl
    · have h0 : x 0 = .agg (arrC (fun _ => false)) := hp.1 rfl
      unfold PStepR
      rw [if_pos (by rfl)]
      intro K hK
      simp only [fillFrom, Act.put, List.setIfInBounds_toArray, List.set_cons_zero, List.set_cons_succ, Nat.reduceAdd, h0] at hK ⊢
      rcases hG.go B0 with ar | ar
      · refine wp_store_row 110 _ _ rfl (w.heap.size) (arrC (fun _ => false)) rfl rfl 110 _ ar (size_arr _) ((arrC_size _).trans (arrC_size _).symm) (arrC_one _) ?_
        exact hK undef _ (RG.row ar) (ar.row _)
      · refine wp_store_row 110 _ _ rfl (w.heap.size) (arrC (fun _ => false)) rfl rfl 110 _ ar (size_arr _) rfl (arrC_one _) ?_
        exact hK undef _ (RG.row ar) (ar.row _)
    · unfold PStepR
      rw [if_pos (by rfl)]
      intro K hK
      simp only [fillFrom, Act.put, List.setIfInBounds_toArray, List.set_cons_zero, List.set_cons_succ, Nat.reduceAdd] at hK ⊢
      go_simp
      exact hK _ _ (RG.refl _ _ _ _) rfl
  · intro x w9 hG hP
    have e0 : x 0 = .agg (arrC (fun _ => false)) := hP.1
    have e1 : x 1 = .int .u8 0 := hP.2.1
    have e2 : Arr w9 (w.heap.size) (fun _ => false) := hP.2.2.1
    have e3 : x 3 = .bool false := hP.2.2.2.1
    simp only [fillFrom, Act.put, List.setIfInBounds_toArray, List.set_cons_zero, List.set_cons_succ, Nat.reduceAdd, e0, e1, e3]
    clear hP e0 e1 e3
    have G9 := Lib.hid (Below.trans G6.out (hG.fr.below (Nat.le_refl _) (fun g hg => by cases hg) G6.out.size))
    have E2 := Lib.hid e2
    clear e2 hG
    go_wp2
    exact bodyPost_ret (v := .tuple #[.int .u8 0, .agg (arrC fun _ => false), .bool false]) (results61 _ _ _ w.heap.size _ _ rfl rfl rfl E2.out) rfl ⟨rfl, G9.out⟩

set_option maxRecDepth 100000 in
set_option maxHeartbeats 2000000 in
theorem item_stroke (B r : Nat) (s : ByteArray) (st : RS) (v : Value) (w : World) (h : RA B r s st v w) (hp : st.at_ < s.size) (hs : s.size ≤ 100000) (h92 : by_ s st.at_ = 92) :
    Calls Try.prog 61 #[.pointer (some ⟨r, 0, none⟩)] w (ItPost B r s st v (strokeF s st.at_) w) := by
  obtain ⟨W1, hW⟩ : ∃ W1, W1 = (w.alloc (.cells Try.zeroCells110 110)).alloc (.cells Try.zeroCells110 110) := ⟨_, rfl⟩
  have a1 : Arr W1 (w.heap.size + 1) (fun _ => false) := by rw [hW]; have := Arr.new (w.alloc (.cells Try.zeroCells110 110)); simpa using this
  have a0 : Arr W1 w.heap.size (fun _ => false) := by rw [hW]; exact (Arr.new w).below ((Below.refl (w.heap.size + 1) _).alloc (by simp) _) (by omega)
  have g1 : Grow w W1 := by rw [hW]; exact ((Grow.refl w).alloc _).alloc _
  have h1 := h.grow g1
  have c0 := h1.c0
  have c1 := h1.c1
  have f1 := h1.fz 1
  have hr := h.lt
  have HV := Lib.hid (show ∀ g, v.ownBlock = some g → g < w.heap.size from fun g hg => (h.own.lt g hg).2)
  have H := Lib.hid h
  have H1 := Lib.hid h1
  have A0 := Lib.hid a0
  have A1 := Lib.hid a1
  have G1 := Lib.hid g1
  have HW := Lib.hid hW
  have SK := Lib.hid (fun k => stroke_any B r s st v (W1.drewN k) (h1.grow (below_drewN (Grow.refl W1) k)) hs (by omega))
  obtain ⟨p, hpp⟩ : ∃ p, p = st.at_ := ⟨_, rfl⟩
  rw [← hpp] at c1 hp h92
  have k1 : (p : Int) < (s.size : Int) := by omega
  have k0 : (0 : Int) ≤ (p : Int) := by omega
  have k3 : decide (s.size ≤ p) = false := by simp; omega
  have hcs : s[p].toNat = 92 := by rw [← h92, by_at s p hp]
  have HR0 := Lib.hid (show w.heap.size ≠ r from by omega)
  obtain ⟨res, hres⟩ : ∃ res, res = strokeF s st.at_ := ⟨_, rfl⟩
  rw [← hres] at SK ⊢
  clear hW a0 a1 g1 h1 h h92 hpp hres
  go_enter Try.func61, Try.ntmps61
  go_wp2
  rw [← HW.out]
  go_quiet (fail)
  generalize nq = nq0
  go_wp2
  go_quiet (fail)
  go_wp2_with fail
  refine (SK.out _).mono ?_
  rintro e w5 ⟨m5, a, m, ok, rfl, hm⟩
  have M5 := Lib.hid (Moved.from (below_drewN G1.out _) m5)
  have A5 := Lib.hid (show Arr w5 w.heap.size (fun _ => false) from (m5.2.block _ (by have := A0.out.lt; simpa using this) HR0.out (by simp [nilV, Value.ownBlock])).trans A0.out)
  have HM := Lib.hid hm
  have SA := Lib.hid (size_arr m)
  have OS := Lib.hid (show (arrC fun _ => false).size = (arrC m).size from by rw [arrC_size, arrC_size])
  clear m5 hm c0 c1 f1
  go_wp2_with (refine wpList_store_row rfl 110 _ _ rfl w.heap.size (arrC m) rfl rfl 110 (arrC fun _ => false) A5.out SA.out OS.out (arrC_one _) ?_)
  refine bodyPost_ret (v := .tuple #[.int .u8 a, .agg (arrC m), .bool ok]) (results61 _ _ _ w.heap.size _ _ rfl rfl rfl (A5.out.row _)) rfl ⟨?_, a, m, ok, rfl, HM.out⟩
  exact M5.out.own (RG.row (m0 := m) A5.out).fr (Nat.le_refl _) hr HV.out
/-- what the fourteen operations leave -/
def phiI (G r p c : Nat) (s : ByteArray) : Nat → Value → World → Prop
  | 0 => fun x _ => x = .pointer (some ⟨r, 0, none⟩)
  | 1 => fun x _ => x = .pointer (some ⟨r, 0, none⟩)
  | 2 => fun x _ => x = .pointer (some ⟨r, 0, none⟩)
  | 3 => fun x _ => x = .string s
  | 4 => fun x _ => x = .pointer (some ⟨r, 0, none⟩)
  | 5 => fun x _ => x = .pointer (some ⟨r, 0, none⟩)
  | 6 => fun x _ => x = .pointer (some ⟨r, 1, none⟩)
  | 7 => fun x _ => x = .int .i64 ((p : Int) + 1)
  | 8 => fun x _ => x = .int .i64 (p : Nat)
  | 9 => fun x _ => x = .int .u8 (c : Nat)
  | 10 => fun x _ => x = .agg (arrC fun _ => false)
  | 11 => fun x _ => x = .int .u8 (c : Nat)
  | 12 => fun _ w => Arr w G (fun _ => false)
  | _ => fun x _ => x = .bool true
theorem phiI_stab (G r p c : Nat) (s : ByteArray) (i : Nat) (x : Value) (w w' : World) (hr : RG G (fun _ => false) (fun _ => false) w w') (h : phiI G r p c s i x w) : phiI G r p c s i x w' := by
  by_cases h2 : i = 12
  · subst h2; exact hr.st h
  · unfold phiI at h ⊢
    split at h <;> simp_all

set_option maxRecDepth 100000 in
set_option maxHeartbeats 4000000 in
theorem item_byte (B r : Nat) (s : ByteArray) (st : RS) (v : Value) (w : World) (h : RA B r s st v w) (hp : st.at_ < s.size) (hs : s.size ≤ 100000) (h92 : by_ s st.at_ ≠ 92) :
    Calls Try.prog 61 #[.pointer (some ⟨r, 0, none⟩)] w fun e w' => e = .returned (.tuple #[.int .u8 (by_ s st.at_ : Nat), .agg (arrC fun _ => false), .bool true]) ∧ Moved B r s st v (st.at_ + 1) w w' := by
  obtain ⟨W1, hW⟩ : ∃ W1, W1 = (w.alloc (.cells Try.zeroCells110 110)).alloc (.cells Try.zeroCells110 110) := ⟨_, rfl⟩
  have a1 : Arr W1 (w.heap.size + 1) (fun _ => false) := by rw [hW]; have := Arr.new (w.alloc (.cells Try.zeroCells110 110)); simpa using this
  have a0 : Arr W1 w.heap.size (fun _ => false) := by rw [hW]; exact (Arr.new w).below ((Below.refl (w.heap.size + 1) _).alloc (by simp) _) (by omega)
  have g1 : Grow w W1 := by rw [hW]; exact ((Grow.refl w).alloc _).alloc _
  have h1 := h.grow g1
  have c0 := h1.c0
  have c1 := h1.c1
  have f1 := h1.fz 1
  have hr := h.lt
  have HV := Lib.hid (show ∀ g, v.ownBlock = some g → g < w.heap.size from fun g hg => (h.own.lt g hg).2)
  have H := Lib.hid h
  have H1 := Lib.hid h1
  have A0 := Lib.hid a0
  have A1 := Lib.hid a1
  have G1 := Lib.hid g1
  have HW := Lib.hid hW
  have HR0 := Lib.hid (show r ≠ w.heap.size from by omega)
  obtain ⟨p, hpp⟩ : ∃ p, p = st.at_ := ⟨_, rfl⟩
  rw [← hpp] at c1 hp h92 ⊢
  have k1 : (p : Int) < (s.size : Int) := by omega
  have k0 : (0 : Int) ≤ (p : Int) := by omega
  have k2 : (p : Int) ≤ 100000 := by omega
  have k3 : decide (s.size ≤ p) = false := by simp; omega
  obtain ⟨c, hc⟩ : ∃ c, c = by_ s p := ⟨_, rfl⟩
  have hcs : s[p].toNat = c := by rw [hc, by_at s p hp]
  rw [← hc] at h92 ⊢
  have t1 : ((c : Int) == 92) = false := by simp; omega
  clear hW a0 a1 g1 h1 h h92 hpp hc
  go_enter Try.func61, Try.ntmps61
  go_wp2
  rw [← HW.out]
  go_quiet (fail)
  generalize nq = nq0
  go_wp2
  go_quiet (fail)
  generalize nq = nq1
  go_wp2
  have e2 : ((p + 1 : Nat) : Int) = (p : Int) + 1 := by omega
  have m4 := moved_set (q := p + 1) H.out (below_drewN G1.out (nq0 + nq1))
  rw [e2] at m4
  obtain ⟨W6, hW6⟩ : ∃ W6, W6 = (W1.drewN (nq0 + nq1)).setCell ⟨r, 1, none⟩ (.int .i64 ((p : Int) + 1)) := ⟨_, rfl⟩
  have B0 : Arr W6 w.heap.size (fun _ => false) := by rw [hW6]; exact (heap_setCell_other _ _ _ _ (fun e => HR0.out e.symm)).trans A0.out
  have B1 : Arr W6 (w.heap.size + 1) (fun _ => false) := by rw [hW6]; exact (heap_setCell_other _ _ _ _ (by show w.heap.size + 1 ≠ r; omega)).trans A1.out
  rw [← hW6] at m4 ⊢
  have d0 : W6.cell? ⟨r, 0, none⟩ = some (.string s) := m4.1.c0
  have d1 : W6.cell? ⟨r, 1, none⟩ = some (.int .i64 ((p : Int) + 1)) := by have := m4.1.c1; rw [this]; show some (Value.int .i64 ((p + 1 : Nat) : Int)) = _; rw [e2]
  have hr6 : r < W6.heap.size := m4.1.lt
  have M6 := Lib.hid m4
  have z1 : IntKind.i64.wrap (p : Int) = (p : Int) := IntWalk.i64_in _ (by omega)
  have z2 : IntKind.i64.wrap ((p : Int) + 1 - 1) = (p : Int) := by rw [show (p : Int) + 1 - 1 = p from by omega]; exact z1
  clear hW6 m4 c0 c1 f1 e2
  refine wp_region_R' (RG w.heap.size (fun _ => false) (fun _ => false)) (RG.refl _ _ _) (RG.trans _ _ _) (RG.drew _ _ _ _) (phiI w.heap.size r p c s) (by kernel_rfl) (by kernel_rfl) (phiI_stab _ _ _ _ _) ?_ ?_
  · intro x wq hG
    refine ⟨fun hp => ?_, fun hp => ?_, fun hp => ?_, fun hp => ?_, fun hp => ?_, fun hp => ?_, fun hp => ?_, fun hp => ?_, fun hp => ?_, fun hp => ?_, fun hp => ?_, fun hp => ?_, fun hp => ?_, fun hp => ?_, trivial⟩
    · unfold PStepR
      rw [if_pos (by rfl)]
      intro K hK
      simp only [fillFrom, Act.put, List.setIfInBounds_toArray, List.set_cons_zero, List.set_cons_succ, Nat.reduceAdd] at hK ⊢
      go_simp
      exact hK _ _ (RG.refl _ _ _ _) rfl
    · have h0 : x 0 = .pointer (some ⟨r, 0, none⟩) := hp.1 rfl
      unfold PStepR
      rw [if_pos (by rfl)]
      intro K hK
      simp only [fillFrom, Act.put, List.setIfInBounds_toArray, List.set_cons_zero, List.set_cons_succ, Nat.reduceAdd, h0] at hK ⊢
      go_simp
      exact hK _ _ (RG.refl _ _ _ _) rfl
    · have h1 : x 1 = .pointer (some ⟨r, 0, none⟩) := hp.1 rfl
      unfold PStepR
      rw [if_pos (by rfl)]
      intro K hK
      simp only [fillFrom, Act.put, List.setIfInBounds_toArray, List.set_cons_zero, List.set_cons_succ, Nat.reduceAdd, h1] at hK ⊢
      go_simp
      exact hK _ _ (RG.refl _ _ _ _) rfl
    · have h2 : x 2 = .pointer (some ⟨r, 0, none⟩) := hp.1 rfl
      unfold PStepR
      rw [if_pos (by rfl)]
      intro K hK
      simp only [fillFrom, Act.put, List.setIfInBounds_toArray, List.set_cons_zero, List.set_cons_succ, Nat.reduceAdd, h2] at hK ⊢
      have q0 : wq.cell? ⟨r, 0, none⟩ = some (.string s) := (World.cell?_of_block (a := ⟨r, 0, none⟩) (hG.fr.block r hr6 HR0.out (by simp [nilV, Value.ownBlock]))).trans d0
      go_simp
      exact hK _ _ (RG.refl _ _ _ _) rfl
    · unfold PStepR
      rw [if_pos (by rfl)]
      intro K hK
      simp only [fillFrom, Act.put, List.setIfInBounds_toArray, List.set_cons_zero, List.set_cons_succ, Nat.reduceAdd] at hK ⊢
      go_simp
      exact hK _ _ (RG.refl _ _ _ _) rfl
    · have h4 : x 4 = .pointer (some ⟨r, 0, none⟩) := hp.1 rfl
      unfold PStepR
      rw [if_pos (by rfl)]
      intro K hK
      simp only [fillFrom, Act.put, List.setIfInBounds_toArray, List.set_cons_zero, List.set_cons_succ, Nat.reduceAdd, h4] at hK ⊢
      go_simp
      exact hK _ _ (RG.refl _ _ _ _) rfl
    · have h5 : x 5 = .pointer (some ⟨r, 0, none⟩) := hp.1 rfl
      unfold PStepR
      rw [if_pos (by rfl)]
      intro K hK
      simp only [fillFrom, Act.put, List.setIfInBounds_toArray, List.set_cons_zero, List.set_cons_succ, Nat.reduceAdd, h5] at hK ⊢
      go_simp
      exact hK _ _ (RG.refl _ _ _ _) rfl
    · have h6 : x 6 = .pointer (some ⟨r, 1, none⟩) := hp.1 rfl
      unfold PStepR
      rw [if_pos (by rfl)]
      intro K hK
      simp only [fillFrom, Act.put, List.setIfInBounds_toArray, List.set_cons_zero, List.set_cons_succ, Nat.reduceAdd, h6] at hK ⊢
      have q1 : wq.cell? ⟨r, 1, none⟩ = some (.int .i64 ((p : Int) + 1)) := (World.cell?_of_block (a := ⟨r, 1, none⟩) (hG.fr.block r hr6 HR0.out (by simp [nilV, Value.ownBlock]))).trans d1
      go_simp
      exact hK _ _ (RG.refl _ _ _ _) rfl
    · have h7 : x 7 = .int .i64 ((p : Int) + 1) := hp.1 rfl
      unfold PStepR
      rw [if_pos (by rfl)]
      intro K hK
      simp only [fillFrom, Act.put, List.setIfInBounds_toArray, List.set_cons_zero, List.set_cons_succ, Nat.reduceAdd, h7] at hK ⊢
      go_simp
      exact hK _ _ (RG.refl _ _ _ _) rfl
    · have h3 : x 3 = .string s := hp.1 rfl
      have h8 : x 8 = .int .i64 (p : Nat) := hp.2.1 rfl
      unfold PStepR
      rw [if_pos (by rfl)]
      intro K hK
      simp only [fillFrom, Act.put, List.setIfInBounds_toArray, List.set_cons_zero, List.set_cons_succ, Nat.reduceAdd, h3, h8] at hK ⊢
      go_simp
      exact hK _ _ (RG.refl _ _ _ _) rfl
    · unfold PStepR
      rw [if_pos (by rfl)]
      intro K hK
      simp only [fillFrom, Act.put, List.setIfInBounds_toArray, List.set_cons_zero, List.set_cons_succ, Nat.reduceAdd] at hK ⊢
      refine wp_load_row 110 _ rfl (w.heap.size + 1) rfl 110 (arrC fun _ => false) (0, 0) _ ((hG.fr.block _ B1.lt (by omega) (by simp [nilV, Value.ownBlock])).trans B1) und110 rfl (size_arr _) ?_
      exact hK _ _ (RG.refl _ _ _ _) rfl
    · have h9 : x 9 = .int .u8 (c : Nat) := hp.1 rfl
      unfold PStepR
      rw [if_pos (by rfl)]
      intro K hK
      simp only [fillFrom, Act.put, List.setIfInBounds_toArray, List.set_cons_zero, List.set_cons_succ, Nat.reduceAdd, h9] at hK ⊢
      go_simp
      exact hK _ _ (RG.refl _ _ _ _) rfl
    · have h10 : x 10 = .agg (arrC fun _ => false) := hp.1 rfl
      unfold PStepR
      rw [if_pos (by rfl)]
      intro K hK
      simp only [fillFrom, Act.put, List.setIfInBounds_toArray, List.set_cons_zero, List.set_cons_succ, Nat.reduceAdd, h10] at hK ⊢
      have ar : Arr wq w.heap.size (fun _ => false) := (hG.go B0).elim id id
      refine wp_store_row 110 _ _ rfl w.heap.size (arrC fun _ => false) rfl rfl 110 _ ar (size_arr _) rfl (arrC_one _) ?_
      exact hK undef _ (RG.row ar) (ar.row _)
    · unfold PStepR
      rw [if_pos (by rfl)]
      intro K hK
      simp only [fillFrom, Act.put, List.setIfInBounds_toArray, List.set_cons_zero, List.set_cons_succ, Nat.reduceAdd] at hK ⊢
      go_simp
      exact hK _ _ (RG.refl _ _ _ _) rfl
  · intro x w9 hG hP
    have e0 : x 0 = .pointer (some ⟨r, 0, none⟩) := hP.1
    have e1 : x 1 = .pointer (some ⟨r, 0, none⟩) := hP.2.1
    have e2 : x 2 = .pointer (some ⟨r, 0, none⟩) := hP.2.2.1
    have e3 : x 3 = .string s := hP.2.2.2.1
    have e4 : x 4 = .pointer (some ⟨r, 0, none⟩) := hP.2.2.2.2.1
    have e5 : x 5 = .pointer (some ⟨r, 0, none⟩) := hP.2.2.2.2.2.1
    have e6 : x 6 = .pointer (some ⟨r, 1, none⟩) := hP.2.2.2.2.2.2.1
    have e7 : x 7 = .int .i64 ((p : Int) + 1) := hP.2.2.2.2.2.2.2.1
    have e8 : x 8 = .int .i64 (p : Nat) := hP.2.2.2.2.2.2.2.2.1
    have e9 : x 9 = .int .u8 (c : Nat) := hP.2.2.2.2.2.2.2.2.2.1
    have e10 : x 10 = .agg (arrC fun _ => false) := hP.2.2.2.2.2.2.2.2.2.2.1
    have e11 : x 11 = .int .u8 (c : Nat) := hP.2.2.2.2.2.2.2.2.2.2.2.1
    have e12 : Arr w9 w.heap.size (fun _ => false) := hP.2.2.2.2.2.2.2.2.2.2.2.2.1
    have e13 : x 13 = .bool true := hP.2.2.2.2.2.2.2.2.2.2.2.2.2.1
    simp only [fillFrom, Act.put, List.setIfInBounds_toArray, List.set_cons_zero, List.set_cons_succ, Nat.reduceAdd, e0, e1, e2, e3, e4, e5, e6, e7, e8, e9, e10, e11, e13]
    clear hP e0 e1 e2 e3 e4 e5 e6 e7 e8 e9 e10 e11 e13
    have M9 := Lib.hid (M6.out.own hG.fr (Nat.le_refl _) hr HV.out)
    have E12 := Lib.hid e12
    clear e12 hG
    go_wp2
    exact bodyPost_ret (v := .tuple #[.int .u8 (c : Nat), .agg (arrC fun _ => false), .bool true]) (results61 _ _ _ w.heap.size _ _ rfl rfl rfl E12.out) rfl ⟨rfl, M9.out⟩

theorem item_any (B r : Nat) (s : ByteArray) (st : RS) (v : Value) (w : World) (h : RA B r s st v w) (hs : s.size ≤ 100000) :
    Calls Try.prog 61 #[.pointer (some ⟨r, 0, none⟩)] w (ItPost B r s st v (itemF s st.at_) w) := by
  by_cases hp : st.at_ < s.size
  · by_cases h92 : by_ s st.at_ = 92
    · have e : itemF s st.at_ = strokeF s st.at_ := by simp [itemF, hp, h92]
      rw [e]
      exact item_stroke B r s st v w h hp hs h92
    · have e : itemF s st.at_ = (some ⟨by_ s st.at_, none, st.at_ + 1⟩, st.at_ + 1) := by simp [itemF, hp, h92]
      refine (item_byte B r s st v w h hp hs h92).mono ?_
      rintro _ w' ⟨rfl, hm⟩
      rw [e]
      exact ⟨hm, by_ s st.at_, _, true, rfl, rfl, rfl, rfl⟩
  · have e : itemF s st.at_ = (none, st.at_) := by simp [itemF, hp]
    refine (item_end B r s st v w h hp).mono ?_
    rintro _ w' ⟨rfl, hg⟩
    rw [e]
    exact ⟨Moved.stay h hg, 0, _, false, rfl, rfl⟩
end Go.Proofs.Ytldcbkememonaaa
