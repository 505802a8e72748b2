/-
  The walk of act, over the joint state. / The walk of act: Sync, Crash, Read, and what is no act.
-/
import Derived.Test.YticpldjcmhpjoaaQn
import Derived.Deep.RegionHeld3
namespace Go.Proofs.Yticpldjcmhpjoaa
open Go.RowKit
set_option linter.unusedVariables false
set_option linter.unusedSimpArgs false

variable {w0 w1 w : World} {R : Nat → Prop} {fb xb s t : Nat} {D E : Doc}
/-- what is known of an act that came in -/
structure ActOk (w0 : World) (a : Actn) (pv : Value) : Prop where
  parts : PartsIn w0 pv a.b
  few : a.b.length ≤ 1000000
  sum : a.b.flatten.length ≤ 1073741824
  at_ : -9223372036854775808 ≤ a.at_ ∧ a.at_ ≤ 9223372036854775807
  n : -9223372036854775808 ≤ a.n ∧ a.n ≤ 9223372036854775807
def ActP (w0 w1 : World) (R : Nat → Prop) (fb xb s t : Nat) (D E : Doc) (a : Actn) (e : Ending) (w' : World) : Prop :=
  ∃ r : Bool, e = .returned (.bool r) ∧ (D = E → r = true) ∧ JS w0 w1 R w' fb xb (s + 2) (t + 1) (stepD D a) (stepD E a)
theorem ret_some {b : Bool} {v : Value} {Q : Bool → Prop} (h : v = .bool b) (hq : Q b) : ∃ r : Bool, Ending.returned v = .returned (.bool r) ∧ Q r := ⟨b, by rw [h], hq⟩
/-- the joint state with a box, seen from inside act -/
structure Jb (w0 w : World) (R : Nat → Prop) (o : Obj) (fb xb s t : Nat) (D E : Doc) (W : World) : Prop where
  out : JS w0 (w.alloc o) (fun k => R k ∨ k = w.heap.size) W fb xb s t D E
theorem Jb.grow {o : Obj} {W W' : World} (h : Jb w0 w R o fb xb s t D E W) (g : Grow W W') : Jb w0 w R o fb xb s t D E W' := ⟨h.out.grow g⟩
theorem Jb.mono {o : Obj} {W : World} {s' t' : Nat} (h : Jb w0 w R o fb xb s t D E W) (hs : s ≤ s') (ht : t ≤ t') : Jb w0 w R o fb xb s' t' D E W := ⟨h.out.mono hs ht⟩
theorem Jb.start (h : JS w0 w1 R w fb xb s t D E) (o : Obj) : Jb w0 w R o fb xb s t D E (w.alloc o) := ⟨h.box o⟩
theorem Jb.cell {C : Array Value} {T : TypeId} {W : World} (h : Jb w0 w R (.cells C T) fb xb s t D E W) (j : Nat) : W.cell? ⟨w.heap.size, j, none⟩ = C[j]? := cell_blk h.out.boxed j
theorem Jb.back {o : Obj} {W : World} {s' t' : Nat} {D' E' : Doc} (h0 : JS w0 w1 R w fb xb s t D E) (h : Jb w0 w R o fb xb s' t' D' E' W) : JS w0 w1 R W fb xb s' t' D' E' := h0.unbox h.out
set_option maxRecDepth 20000 in
set_option maxHeartbeats 2000000 in
theorem act1 (h : JS w0 w1 R w fb xb s t D E) (hs : s ≤ 800000) (ht : t ≤ 80000) (a : Actn) (pv : Value) (hA : ActOk w0 a pv) (hk : a.kind = 1) :
    Calls Try.prog 19 #[.pointer (some ⟨fb, 0, none⟩), .pointer (some ⟨xb, 0, none⟩), .agg #[.int .i64 a.kind, .int .i64 a.at_, .int .i64 a.n, .string a.name, pv]] w (ActP w0 w1 R fb xb s t D E a) := by
  obtain ⟨kind, at_, n, name, b⟩ := a
  obtain ⟨hp, hfew, hsum, hat, hn⟩ := hA
  simp only at hk hp hfew hsum hat hn ⊢
  subst hk
  obtain ⟨pa, pn, pc, hpv⟩ : ∃ pa pn pc, pv = .slice pa pn pc := by obtain ⟨a, c, e, _⟩ := hp; exact ⟨_, _, _, e⟩
  subst hpv
  have BX := Lib.hid (show ∀ (s t : Nat) (D E : Doc) (W : World), Jb w0 w R (.cells #[.int .i64 1, .int .i64 at_, .int .i64 n, .string name, .slice pa pn pc] 43) fb xb s t D E W → W.cell? ⟨w.heap.size, 0, none⟩ = some (.int .i64 1) ∧ W.cell? ⟨w.heap.size, 1, none⟩ = some (.int .i64 at_) ∧ W.cell? ⟨w.heap.size, 2, none⟩ = some (.int .i64 n) ∧ W.cell? ⟨w.heap.size, 3, none⟩ = some (.string name) ∧ W.cell? ⟨w.heap.size, 4, none⟩ = some (.slice pa pn pc) from fun s t D E W hW => ⟨hW.cell 0, hW.cell 1, hW.cell 2, hW.cell 3, hW.cell 4⟩)
  have J1 := Jb.start h (.cells #[.int .i64 1, .int .i64 at_, .int .i64 n, .string name, .slice pa pn pc] 43)
  have BK := Lib.hid (show ∀ (s' t' : Nat) (D' E' : Doc) (W : World), Jb w0 w R (.cells #[.int .i64 1, .int .i64 at_, .int .i64 n, .string name, .slice pa pn pc] 43) fb xb s' t' D' E' W → JS w0 w1 R W fb xb s' t' D' E' from fun s' t' D' E' W hW => hW.back h)
  obtain ⟨ob, hob⟩ : ∃ ob : Obj, ob = .cells #[.int .i64 1, .int .i64 at_, .int .i64 n, .string name, .slice pa pn pc] 43 := ⟨_, rfl⟩
  rw [← hob] at BX J1 BK
  obtain ⟨rD, hrD⟩ : ∃ rD, rD = (createD D name b.flatten).1 := ⟨_, rfl⟩
  obtain ⟨rE, hrE⟩ : ∃ rE, rE = (createD E name b.flatten).1 := ⟨_, rfl⟩
  obtain ⟨D', hD'⟩ : ∃ D', D' = (createD D name b.flatten).2 := ⟨_, rfl⟩
  obtain ⟨E', hE'⟩ : ∃ E', E' = (createD E name b.flatten).2 := ⟨_, rfl⟩
  have Ca := Lib.hid (show ∀ W, Jb w0 w R ob fb xb s t D E W → Calls Try.prog 10 #[.pointer (some ⟨fb, 0, none⟩), .string name, .slice pa pn pc] W fun e w' => e = .returned (.int .i64 rD) ∧ Jb w0 w R ob fb xb (s + 2) t D' E w' from fun W hW => by
    rw [hrD, hD']
    exact (js_create hW.out (by omega) name (.slice pa pn pc) b hp hfew hsum).mono fun e w' h => ⟨h.1, ⟨h.2⟩⟩)
  have Cb := Lib.hid (show ∀ W, Jb w0 w R ob fb xb s (t + 1) D E' W → Calls Try.prog 10 #[.pointer (some ⟨fb, 0, none⟩), .string name, .slice pa pn pc] W fun e w' => e = .returned (.int .i64 rD) ∧ Jb w0 w R ob fb xb (s + 2) (t + 1) D' E' w' from fun W hW => by
    rw [hrD, hD']
    exact (js_create hW.out (by omega) name (.slice pa pn pc) b hp hfew hsum).mono fun e w' h => ⟨h.1, ⟨h.2⟩⟩)
  have Xa := Lib.hid (show ∀ W, Jb w0 w R ob fb xb s t D E W → Calls Try.prog 35 #[.pointer (some ⟨xb, 0, none⟩), .string name, .slice pa pn pc] W fun e w' => e = .returned (.int .i64 rE) ∧ Jb w0 w R ob fb xb s (t + 1) D E' w' from fun W hW => by
    rw [hrE, hE']
    exact (js_xcreate hW.out (by omega) name (.slice pa pn pc) b hp hfew hsum).mono fun e w' h => ⟨h.1, ⟨h.2⟩⟩)
  have Xb := Lib.hid (show ∀ W, Jb w0 w R ob fb xb (s + 2) t D' E W → Calls Try.prog 35 #[.pointer (some ⟨xb, 0, none⟩), .string name, .slice pa pn pc] W fun e w' => e = .returned (.int .i64 rE) ∧ Jb w0 w R ob fb xb (s + 2) (t + 1) D' E' w' from fun W hW => by
    rw [hrE, hE']
    exact (js_xcreate hW.out (by omega) name (.slice pa pn pc) b hp hfew hsum).mono fun e w' h => ⟨h.1, ⟨h.2⟩⟩)
  have HRR := Lib.hid (show D = E → rD = rE from fun e => by rw [hrD, hrE, e])
  have HSD := Lib.hid (show stepD D ⟨1, at_, n, name, b⟩ = D' from by rw [hD']; rfl)
  have HSE := Lib.hid (show stepD E ⟨1, at_, n, name, b⟩ = E' from by rw [hE']; rfl)
  obtain ⟨x0, x1, x2, x3, x4⟩ := BX.out _ _ _ _ _ J1
  have JD := J1.grow (Grow.refl _).drew
  have HOB := Lib.hid hob
  rw [hob] at JD x0 x1 x2 x3 x4
  rw [← hob] at JD
  clear hrD hrE hD' hE' hp hfew hsum hat hn h J1 hob
  have KEEP := Lib.hid (show ∀ (s t : Nat) (D E : Doc) (W : World), Jb w0 w R ob fb xb s t D E W → W.cell? ⟨w.heap.size, 3, none⟩ = some (.string name) ∧ W.cell? ⟨w.heap.size, 4, none⟩ = some (.slice pa pn pc) from fun s t D E W hW => by
    have q := BX.out _ _ _ _ _ hW
    exact ⟨q.2.2.2.1, q.2.2.2.2⟩)
  go_enter Try.func19, Try.ntmps19
  go_wp2
  rw [← HOB.out]
  go_region_held3 (fun W => W.cell? ⟨w.heap.size, 3, none⟩ = some (.string name) ∧ W.cell? ⟨w.heap.size, 4, none⟩ = some (.slice pa pn pc)) (exact KEEP.out _ _ _ _ _ (by assumption))
    (first
      | (go_at_call 10; refine (Ca.out _ (by assumption)).mono ?_; rintro _ w5 ⟨rfl, j5⟩)
      | (go_at_call 10; refine (Cb.out _ (by assumption)).mono ?_; rintro _ w6 ⟨rfl, j6⟩)
      | (go_at_call 35; refine (Xa.out _ (by assumption)).mono ?_; rintro _ w7 ⟨rfl, j7⟩)
      | (go_at_call 35; refine (Xb.out _ (by assumption)).mono ?_; rintro _ w8 ⟨rfl, j8⟩))
  all_goals
    have FIN := Lib.hid (show JS w0 w1 R _ fb xb (s + 2) (t + 1) D' E' from BK.out _ _ _ _ _ (by assumption))
    go_wp2
    go_ret
    refine ⟨_, rfl, fun e => by simp [HRR.out e], ?_⟩
    rw [HSD.out, HSE.out]
    exact FIN.out
set_option maxRecDepth 20000 in
set_option maxHeartbeats 2000000 in
theorem act2 (h : JS w0 w1 R w fb xb s t D E) (hs : s ≤ 800000) (ht : t ≤ 80000) (a : Actn) (pv : Value) (hA : ActOk w0 a pv) (hk : a.kind = 2) :
    Calls Try.prog 19 #[.pointer (some ⟨fb, 0, none⟩), .pointer (some ⟨xb, 0, none⟩), .agg #[.int .i64 a.kind, .int .i64 a.at_, .int .i64 a.n, .string a.name, pv]] w (ActP w0 w1 R fb xb s t D E a) := by
  obtain ⟨kind, at_, n, name, b⟩ := a
  obtain ⟨hp, hfew, hsum, hat, hn⟩ := hA
  simp only at hk hp hfew hsum hat hn ⊢
  subst hk
  obtain ⟨pa, pn, pc, hpv⟩ : ∃ pa pn pc, pv = .slice pa pn pc := by obtain ⟨a, c, e, _⟩ := hp; exact ⟨_, _, _, e⟩
  subst hpv
  have BX := Lib.hid (show ∀ (s t : Nat) (D E : Doc) (W : World), Jb w0 w R (.cells #[.int .i64 2, .int .i64 at_, .int .i64 n, .string name, .slice pa pn pc] 43) fb xb s t D E W → W.cell? ⟨w.heap.size, 0, none⟩ = some (.int .i64 2) ∧ W.cell? ⟨w.heap.size, 1, none⟩ = some (.int .i64 at_) ∧ W.cell? ⟨w.heap.size, 2, none⟩ = some (.int .i64 n) ∧ W.cell? ⟨w.heap.size, 3, none⟩ = some (.string name) ∧ W.cell? ⟨w.heap.size, 4, none⟩ = some (.slice pa pn pc) from fun s t D E W hW => ⟨hW.cell 0, hW.cell 1, hW.cell 2, hW.cell 3, hW.cell 4⟩)
  have J1 := Jb.start h (.cells #[.int .i64 2, .int .i64 at_, .int .i64 n, .string name, .slice pa pn pc] 43)
  have BK := Lib.hid (show ∀ (s' t' : Nat) (D' E' : Doc) (W : World), Jb w0 w R (.cells #[.int .i64 2, .int .i64 at_, .int .i64 n, .string name, .slice pa pn pc] 43) fb xb s' t' D' E' W → JS w0 w1 R W fb xb s' t' D' E' from fun s' t' D' E' W hW => hW.back h)
  obtain ⟨ob, hob⟩ : ∃ ob : Obj, ob = .cells #[.int .i64 2, .int .i64 at_, .int .i64 n, .string name, .slice pa pn pc] 43 := ⟨_, rfl⟩
  rw [← hob] at BX J1 BK
  obtain ⟨rD, hrD⟩ : ∃ rD, rD = (writeD D name at_ b.flatten).1 := ⟨_, rfl⟩
  obtain ⟨rE, hrE⟩ : ∃ rE, rE = (writeD E name at_ b.flatten).1 := ⟨_, rfl⟩
  obtain ⟨D', hD'⟩ : ∃ D', D' = (writeD D name at_ b.flatten).2 := ⟨_, rfl⟩
  obtain ⟨E', hE'⟩ : ∃ E', E' = (writeD E name at_ b.flatten).2 := ⟨_, rfl⟩
  have Ca := Lib.hid (show ∀ W, Jb w0 w R ob fb xb s t D E W → Calls Try.prog 11 #[.pointer (some ⟨fb, 0, none⟩), .string name, .int .i64 at_, .slice pa pn pc] W fun e w' => e = .returned (.int .i64 rD) ∧ Jb w0 w R ob fb xb (s + 2) t D' E w' from fun W hW => by
    rw [hrD, hD']
    exact (js_write hW.out (by omega) name at_ (.slice pa pn pc) b hp hfew hsum).mono fun e w' h => ⟨h.1, ⟨h.2⟩⟩)
  have Cb := Lib.hid (show ∀ W, Jb w0 w R ob fb xb s (t + 1) D E' W → Calls Try.prog 11 #[.pointer (some ⟨fb, 0, none⟩), .string name, .int .i64 at_, .slice pa pn pc] W fun e w' => e = .returned (.int .i64 rD) ∧ Jb w0 w R ob fb xb (s + 2) (t + 1) D' E' w' from fun W hW => by
    rw [hrD, hD']
    exact (js_write hW.out (by omega) name at_ (.slice pa pn pc) b hp hfew hsum).mono fun e w' h => ⟨h.1, ⟨h.2⟩⟩)
  have Xa := Lib.hid (show ∀ W, Jb w0 w R ob fb xb s t D E W → Calls Try.prog 36 #[.pointer (some ⟨xb, 0, none⟩), .string name, .int .i64 at_, .slice pa pn pc] W fun e w' => e = .returned (.int .i64 rE) ∧ Jb w0 w R ob fb xb s (t + 1) D E' w' from fun W hW => by
    rw [hrE, hE']
    exact (js_xwrite hW.out (by omega) name at_ (.slice pa pn pc) b hp hfew hsum).mono fun e w' h => ⟨h.1, ⟨h.2⟩⟩)
  have Xb := Lib.hid (show ∀ W, Jb w0 w R ob fb xb (s + 2) t D' E W → Calls Try.prog 36 #[.pointer (some ⟨xb, 0, none⟩), .string name, .int .i64 at_, .slice pa pn pc] W fun e w' => e = .returned (.int .i64 rE) ∧ Jb w0 w R ob fb xb (s + 2) (t + 1) D' E' w' from fun W hW => by
    rw [hrE, hE']
    exact (js_xwrite hW.out (by omega) name at_ (.slice pa pn pc) b hp hfew hsum).mono fun e w' h => ⟨h.1, ⟨h.2⟩⟩)
  have HRR := Lib.hid (show D = E → rD = rE from fun e => by rw [hrD, hrE, e])
  have HSD := Lib.hid (show stepD D ⟨2, at_, n, name, b⟩ = D' from by rw [hD']; rfl)
  have HSE := Lib.hid (show stepD E ⟨2, at_, n, name, b⟩ = E' from by rw [hE']; rfl)
  obtain ⟨x0, x1, x2, x3, x4⟩ := BX.out _ _ _ _ _ J1
  have JD := J1.grow (Grow.refl _).drew
  have HOB := Lib.hid hob
  rw [hob] at JD x0 x1 x2 x3 x4
  rw [← hob] at JD
  clear hrD hrE hD' hE' hp hfew hsum hat hn h J1 hob
  have KEEP := Lib.hid (show ∀ (s t : Nat) (D E : Doc) (W : World), Jb w0 w R ob fb xb s t D E W → W.cell? ⟨w.heap.size, 3, none⟩ = some (.string name) ∧ W.cell? ⟨w.heap.size, 1, none⟩ = some (.int .i64 at_) ∧ W.cell? ⟨w.heap.size, 4, none⟩ = some (.slice pa pn pc) from fun s t D E W hW => by
    have q := BX.out _ _ _ _ _ hW
    exact ⟨q.2.2.2.1, q.2.1, q.2.2.2.2⟩)
  go_enter Try.func19, Try.ntmps19
  go_wp2
  rw [← HOB.out]
  go_region_held3 (fun W => W.cell? ⟨w.heap.size, 3, none⟩ = some (.string name) ∧ W.cell? ⟨w.heap.size, 1, none⟩ = some (.int .i64 at_) ∧ W.cell? ⟨w.heap.size, 4, none⟩ = some (.slice pa pn pc)) (exact KEEP.out _ _ _ _ _ (by assumption))
    (first
      | (go_at_call 11; refine (Ca.out _ (by assumption)).mono ?_; rintro _ w5 ⟨rfl, j5⟩)
      | (go_at_call 11; refine (Cb.out _ (by assumption)).mono ?_; rintro _ w6 ⟨rfl, j6⟩)
      | (go_at_call 36; refine (Xa.out _ (by assumption)).mono ?_; rintro _ w7 ⟨rfl, j7⟩)
      | (go_at_call 36; refine (Xb.out _ (by assumption)).mono ?_; rintro _ w8 ⟨rfl, j8⟩))
  all_goals
    have FIN := Lib.hid (show JS w0 w1 R _ fb xb (s + 2) (t + 1) D' E' from BK.out _ _ _ _ _ (by assumption))
    go_wp2
    go_ret
    refine ⟨_, rfl, fun e => by simp [HRR.out e], ?_⟩
    rw [HSD.out, HSE.out]
    exact FIN.out
set_option maxRecDepth 20000 in
set_option maxHeartbeats 2000000 in
theorem act3 (h : JS w0 w1 R w fb xb s t D E) (hs : s ≤ 800000) (ht : t ≤ 80000) (a : Actn) (pv : Value) (hA : ActOk w0 a pv) (hk : a.kind = 3) :
    Calls Try.prog 19 #[.pointer (some ⟨fb, 0, none⟩), .pointer (some ⟨xb, 0, none⟩), .agg #[.int .i64 a.kind, .int .i64 a.at_, .int .i64 a.n, .string a.name, pv]] w (ActP w0 w1 R fb xb s t D E a) := by
  obtain ⟨kind, at_, n, name, b⟩ := a
  obtain ⟨hp, hfew, hsum, hat, hn⟩ := hA
  simp only at hk hp hfew hsum hat hn ⊢
  subst hk
  obtain ⟨pa, pn, pc, hpv⟩ : ∃ pa pn pc, pv = .slice pa pn pc := by obtain ⟨a, c, e, _⟩ := hp; exact ⟨_, _, _, e⟩
  subst hpv
  have BX := Lib.hid (show ∀ (s t : Nat) (D E : Doc) (W : World), Jb w0 w R (.cells #[.int .i64 3, .int .i64 at_, .int .i64 n, .string name, .slice pa pn pc] 43) fb xb s t D E W → W.cell? ⟨w.heap.size, 0, none⟩ = some (.int .i64 3) ∧ W.cell? ⟨w.heap.size, 1, none⟩ = some (.int .i64 at_) ∧ W.cell? ⟨w.heap.size, 2, none⟩ = some (.int .i64 n) ∧ W.cell? ⟨w.heap.size, 3, none⟩ = some (.string name) ∧ W.cell? ⟨w.heap.size, 4, none⟩ = some (.slice pa pn pc) from fun s t D E W hW => ⟨hW.cell 0, hW.cell 1, hW.cell 2, hW.cell 3, hW.cell 4⟩)
  have J1 := Jb.start h (.cells #[.int .i64 3, .int .i64 at_, .int .i64 n, .string name, .slice pa pn pc] 43)
  have BK := Lib.hid (show ∀ (s' t' : Nat) (D' E' : Doc) (W : World), Jb w0 w R (.cells #[.int .i64 3, .int .i64 at_, .int .i64 n, .string name, .slice pa pn pc] 43) fb xb s' t' D' E' W → JS w0 w1 R W fb xb s' t' D' E' from fun s' t' D' E' W hW => hW.back h)
  obtain ⟨ob, hob⟩ : ∃ ob : Obj, ob = .cells #[.int .i64 3, .int .i64 at_, .int .i64 n, .string name, .slice pa pn pc] 43 := ⟨_, rfl⟩
  rw [← hob] at BX J1 BK
  obtain ⟨rD, hrD⟩ : ∃ rD, rD = (removeD D name).1 := ⟨_, rfl⟩
  obtain ⟨rE, hrE⟩ : ∃ rE, rE = (removeD E name).1 := ⟨_, rfl⟩
  obtain ⟨D', hD'⟩ : ∃ D', D' = (removeD D name).2 := ⟨_, rfl⟩
  obtain ⟨E', hE'⟩ : ∃ E', E' = (removeD E name).2 := ⟨_, rfl⟩
  have Ca := Lib.hid (show ∀ W, Jb w0 w R ob fb xb s t D E W → Calls Try.prog 26 #[.pointer (some ⟨fb, 0, none⟩), .string name] W fun e w' => e = .returned (.int .i64 rD) ∧ Jb w0 w R ob fb xb (s + 2) t D' E w' from fun W hW => by
    rw [hrD, hD']
    exact (js_remove hW.out (by omega) name).mono fun e w' h => ⟨h.1, ⟨h.2⟩⟩)
  have Cb := Lib.hid (show ∀ W, Jb w0 w R ob fb xb s (t + 1) D E' W → Calls Try.prog 26 #[.pointer (some ⟨fb, 0, none⟩), .string name] W fun e w' => e = .returned (.int .i64 rD) ∧ Jb w0 w R ob fb xb (s + 2) (t + 1) D' E' w' from fun W hW => by
    rw [hrD, hD']
    exact (js_remove hW.out (by omega) name).mono fun e w' h => ⟨h.1, ⟨h.2⟩⟩)
  have Xa := Lib.hid (show ∀ W, Jb w0 w R ob fb xb s t D E W → Calls Try.prog 37 #[.pointer (some ⟨xb, 0, none⟩), .string name] W fun e w' => e = .returned (.int .i64 rE) ∧ Jb w0 w R ob fb xb s (t + 1) D E' w' from fun W hW => by
    rw [hrE, hE']
    exact (js_xremove hW.out (by omega) name).mono fun e w' h => ⟨h.1, ⟨h.2⟩⟩)
  have Xb := Lib.hid (show ∀ W, Jb w0 w R ob fb xb (s + 2) t D' E W → Calls Try.prog 37 #[.pointer (some ⟨xb, 0, none⟩), .string name] W fun e w' => e = .returned (.int .i64 rE) ∧ Jb w0 w R ob fb xb (s + 2) (t + 1) D' E' w' from fun W hW => by
    rw [hrE, hE']
    exact (js_xremove hW.out (by omega) name).mono fun e w' h => ⟨h.1, ⟨h.2⟩⟩)
  have HRR := Lib.hid (show D = E → rD = rE from fun e => by rw [hrD, hrE, e])
  have HSD := Lib.hid (show stepD D ⟨3, at_, n, name, b⟩ = D' from by rw [hD']; rfl)
  have HSE := Lib.hid (show stepD E ⟨3, at_, n, name, b⟩ = E' from by rw [hE']; rfl)
  obtain ⟨x0, x1, x2, x3, x4⟩ := BX.out _ _ _ _ _ J1
  have JD := J1.grow (Grow.refl _).drew
  have HOB := Lib.hid hob
  rw [hob] at JD x0 x1 x2 x3 x4
  rw [← hob] at JD
  clear hrD hrE hD' hE' hp hfew hsum hat hn h J1 hob
  have KEEP := Lib.hid (show ∀ (s t : Nat) (D E : Doc) (W : World), Jb w0 w R ob fb xb s t D E W → W.cell? ⟨w.heap.size, 3, none⟩ = some (.string name) from fun s t D E W hW => by
    have q := BX.out _ _ _ _ _ hW
    exact q.2.2.2.1)
  go_enter Try.func19, Try.ntmps19
  go_wp2
  rw [← HOB.out]
  go_region_held3 (fun W => W.cell? ⟨w.heap.size, 3, none⟩ = some (.string name)) (exact KEEP.out _ _ _ _ _ (by assumption))
    (first
      | (go_at_call 26; refine (Ca.out _ (by assumption)).mono ?_; rintro _ w5 ⟨rfl, j5⟩)
      | (go_at_call 26; refine (Cb.out _ (by assumption)).mono ?_; rintro _ w6 ⟨rfl, j6⟩)
      | (go_at_call 37; refine (Xa.out _ (by assumption)).mono ?_; rintro _ w7 ⟨rfl, j7⟩)
      | (go_at_call 37; refine (Xb.out _ (by assumption)).mono ?_; rintro _ w8 ⟨rfl, j8⟩))
  all_goals
    have FIN := Lib.hid (show JS w0 w1 R _ fb xb (s + 2) (t + 1) D' E' from BK.out _ _ _ _ _ (by assumption))
    go_wp2
    go_ret
    refine ⟨_, rfl, fun e => by simp [HRR.out e], ?_⟩
    rw [HSD.out, HSE.out]
    exact FIN.out
end Go.Proofs.Yticpldjcmhpjoaa

namespace Go.Proofs.Yticpldjcmhpjoaa
open Go.RowKit
set_option linter.unusedVariables false
set_option linter.unusedSimpArgs false

variable {w0 w1 w : World} {R : Nat → Prop} {fb xb s t : Nat} {D E : Doc}
theorem readD_len {D : Doc} (h : Good D) (name : ByteArray) (n m : Int) : (readD D name n m).1.length ≤ 1073741824 := by
  have hr := h.room
  have hs := h.runs.last.sum
  have hf : (findD D name).1.length ≤ 1073741824 := by
    rcases findD_cases D name with e | e | ⟨l, e, hb, hl⟩
    · rw [e]; simp
    · rw [e]; simp
    · rw [e]
      have := sumL_le (look_mem hl)
      simp only at this ⊢
      omega
  unfold readD
  split
  · unfold readL
    split
    · simp only [List.length_take, List.length_drop]
      omega
    · simp
  · simp
set_option maxRecDepth 20000 in
set_option maxHeartbeats 4000000 in
theorem act4 (h : JS w0 w1 R w fb xb s t D E) (hs : s ≤ 800000) (ht : t ≤ 80000) (a : Actn) (pv : Value) (hA : ActOk w0 a pv) (hk : a.kind = 4) :
    Calls Try.prog 19 #[.pointer (some ⟨fb, 0, none⟩), .pointer (some ⟨xb, 0, none⟩), .agg #[.int .i64 a.kind, .int .i64 a.at_, .int .i64 a.n, .string a.name, pv]] w (ActP w0 w1 R fb xb s t D E a) := by
  obtain ⟨kind, at_, n, name, b⟩ := a
  obtain ⟨hp, hfew, hsum, hat, hn⟩ := hA
  simp only at hk hp hfew hsum hat hn ⊢
  subst hk
  obtain ⟨pa, pn, pc, hpv⟩ : ∃ pa pn pc, pv = .slice pa pn pc := by obtain ⟨a, c, e, _⟩ := hp; exact ⟨_, _, _, e⟩
  subst hpv
  have BX := Lib.hid (show ∀ (s t : Nat) (D E : Doc) (W : World), Jb w0 w R (.cells #[.int .i64 4, .int .i64 at_, .int .i64 n, .string name, .slice pa pn pc] 43) fb xb s t D E W → W.cell? ⟨w.heap.size, 0, none⟩ = some (.int .i64 4) ∧ W.cell? ⟨w.heap.size, 1, none⟩ = some (.int .i64 at_) ∧ W.cell? ⟨w.heap.size, 2, none⟩ = some (.int .i64 n) ∧ W.cell? ⟨w.heap.size, 3, none⟩ = some (.string name) ∧ W.cell? ⟨w.heap.size, 4, none⟩ = some (.slice pa pn pc) from fun s t D E W hW => ⟨hW.cell 0, hW.cell 1, hW.cell 2, hW.cell 3, hW.cell 4⟩)
  have J1 := Jb.start h (.cells #[.int .i64 4, .int .i64 at_, .int .i64 n, .string name, .slice pa pn pc] 43)
  have BK := Lib.hid (show ∀ (s' t' : Nat) (D' E' : Doc) (W : World), Jb w0 w R (.cells #[.int .i64 4, .int .i64 at_, .int .i64 n, .string name, .slice pa pn pc] 43) fb xb s' t' D' E' W → JS w0 w1 R W fb xb s' t' D' E' from fun s' t' D' E' W hW => hW.back h)
  obtain ⟨ob, hob⟩ : ∃ ob : Obj, ob = .cells #[.int .i64 4, .int .i64 at_, .int .i64 n, .string name, .slice pa pn pc] 43 := ⟨_, rfl⟩
  rw [← hob] at BX J1 BK
  obtain ⟨D', hD'⟩ : ∃ D' : Doc, D' = ⟨D.room, D.now, D.now, []⟩ := ⟨_, rfl⟩
  obtain ⟨E', hE'⟩ : ∃ E' : Doc, E' = ⟨E.room, E.now, E.now, []⟩ := ⟨_, rfl⟩
  have Ca := Lib.hid (show ∀ W, Jb w0 w R ob fb xb s t D E W → Calls Try.prog 22 #[.pointer (some ⟨fb, 0, none⟩)] W fun e w' => e = .returned (.tuple #[]) ∧ Jb w0 w R ob fb xb (s + 2) t D' E w' from fun W hW => by
    rw [hD']
    exact (js_sync hW.out (by omega)).mono fun e w' h => ⟨h.1, ⟨h.2⟩⟩)
  have Xa := Lib.hid (show ∀ W, Jb w0 w R ob fb xb (s + 2) t D' E W → Calls Try.prog 23 #[.pointer (some ⟨xb, 0, none⟩)] W fun e w' => e = .returned (.tuple #[]) ∧ Jb w0 w R ob fb xb (s + 2) (t + 1) D' E' w' from fun W hW => by
    rw [hE']
    exact (js_xsync hW.out (by omega)).mono fun e w' h => ⟨h.1, ⟨h.2⟩⟩)
  obtain ⟨nD, hnD⟩ : ∃ nD : Int, nD = ((findD D' name).1.length : Int) := ⟨_, rfl⟩
  obtain ⟨eD, heD⟩ : ∃ eD : Int, eD = (findD D' name).2 := ⟨_, rfl⟩
  obtain ⟨nE, hnE⟩ : ∃ nE : Int, nE = ((findD E' name).1.length : Int) := ⟨_, rfl⟩
  obtain ⟨eE, heE⟩ : ∃ eE : Int, eE = (findD E' name).2 := ⟨_, rfl⟩
  have SZ := Lib.hid (show ∀ W, Jb w0 w R ob fb xb (s + 2) (t + 1) D' E' W → Calls Try.prog 25 #[.pointer (some ⟨fb, 0, none⟩), .string name] W fun e w' => e = .returned (.tuple #[.int .i64 nD, .int .i64 eD]) ∧ Jb w0 w R ob fb xb (s + 2) (t + 1) D' E' w' from fun W hW => by
    rw [hnD, heD]
    exact (js_size hW.out name).mono fun e w' h => ⟨h.1, ⟨h.2.1⟩⟩)
  have SX := Lib.hid (show ∀ W, Jb w0 w R ob fb xb (s + 2) (t + 1) D' E' W → Calls Try.prog 40 #[.pointer (some ⟨xb, 0, none⟩), .string name] W fun e w' => e = .returned (.tuple #[.int .i64 nE, .int .i64 eE]) ∧ Jb w0 w R ob fb xb (s + 2) (t + 1) D' E' w' from fun W hW => by
    rw [hnE, heE]
    exact (js_xsize hW.out (by omega) name).mono fun e w' h => ⟨h.1, ⟨h.2.1⟩⟩)
  have HN := Lib.hid (show D = E → nD = nE ∧ eD = eE from fun e => by rw [hnD, hnE, heD, heE, hD', hE', e]; exact ⟨rfl, rfl⟩)
  have HSD := Lib.hid (show stepD D ⟨4, at_, n, name, b⟩ = D' from by rw [hD']; rfl)
  have HSE := Lib.hid (show stepD E ⟨4, at_, n, name, b⟩ = E' from by rw [hE']; rfl)
  obtain ⟨x0, x1, x2, x3, x4⟩ := BX.out _ _ _ _ _ J1
  have HOB := Lib.hid hob
  have JH := Lib.hid J1
  rw [hob] at x0 x1 x2 x3 x4
  clear hD' hE' hnD hnE heD heE hp hfew hsum hat hn h J1 hob
  go_enter Try.func19, Try.ntmps19
  go_wp2_with fail
  rw [← HOB.out]
  refine (Ca.out _ JH.out).mono ?_
  rintro _ w5 ⟨rfl, j5⟩
  have J5 := Lib.hid j5
  obtain ⟨q0, q1, q2, q3, q4⟩ := BX.out _ _ _ _ _ j5
  clear j5 x0 x1 x2 x3 x4
  go_wp2_with fail
  refine (Xa.out _ J5.out).mono ?_
  rintro _ w6 ⟨rfl, j6⟩
  have JT := Lib.hid j6
  clear j6 q0 q1 q2 q3 q4
  obtain ⟨y0, y1, y2, y3, y4⟩ := BX.out _ _ _ _ _ JT.out
  clear y0 y1 y2 y4
  go_wp2_with fail
  refine (SZ.out _ JT.out).mono ?_
  rintro _ wa ⟨rfl, ja⟩
  have JA := Lib.hid ja
  obtain ⟨z0, z1, z2, z3, z4⟩ := BX.out _ _ _ _ _ ja
  clear ja z0 z1 z2 z4
  go_wp2_with fail
  refine (SX.out _ JA.out).mono ?_
  rintro _ wb ⟨rfl, jb⟩
  have FIN := Lib.hid (show JS w0 w1 R wb fb xb (s + 2) (t + 1) D' E' from BK.out _ _ _ _ _ (jb.mono (by omega) (by omega)))
  clear jb
  by_cases hN : nD = nE
  · have n1 : (nD == nE) = true := by simpa using hN
    have HNN := Lib.hid hN
    clear hN
    obtain ⟨eb, heb⟩ : ∃ eb : Bool, eb = (eD == eE) := ⟨_, rfl⟩
    have HEB := Lib.hid (show D = E → eb = true from fun e => by rw [heb, (HN.out e).2]; simp)
    have heb2 : (eD == eE) = eb := heb.symm
    clear heb
    cases eb with
    | true =>
      go_wp2
      go_ret
      refine ret_some (b := true) (by simp [heb2]) ⟨fun e => rfl, ?_⟩
      rw [HSD.out, HSE.out]
      exact FIN.out
    | false =>
      go_wp2
      go_ret
      refine ret_some (b := false) (by simp [heb2]) ⟨fun e => HEB.out e, ?_⟩
      rw [HSD.out, HSE.out]
      exact FIN.out
  · have n1 : (nD == nE) = false := by simpa using hN
    have HNN := Lib.hid (show ¬ D = E from fun e => hN (HN.out e).1)
    clear hN
    go_wp2
    go_ret
    refine ret_some (b := false) rfl ⟨fun e => absurd e HNN.out, ?_⟩
    rw [HSD.out, HSE.out]
    exact FIN.out
set_option maxRecDepth 20000 in
set_option maxHeartbeats 4000000 in
theorem act5 (h : JS w0 w1 R w fb xb s t D E) (hs : s ≤ 800000) (ht : t ≤ 80000) (a : Actn) (pv : Value) (hA : ActOk w0 a pv) (hk : a.kind = 5) :
    Calls Try.prog 19 #[.pointer (some ⟨fb, 0, none⟩), .pointer (some ⟨xb, 0, none⟩), .agg #[.int .i64 a.kind, .int .i64 a.at_, .int .i64 a.n, .string a.name, pv]] w (ActP w0 w1 R fb xb s t D E a) := by
  obtain ⟨kind, at_, n, name, b⟩ := a
  obtain ⟨hp, hfew, hsum, hat, hn⟩ := hA
  simp only at hk hp hfew hsum hat hn ⊢
  subst hk
  obtain ⟨pa, pn, pc, hpv⟩ : ∃ pa pn pc, pv = .slice pa pn pc := by obtain ⟨a, c, e, _⟩ := hp; exact ⟨_, _, _, e⟩
  subst hpv
  have BX := Lib.hid (show ∀ (s t : Nat) (D E : Doc) (W : World), Jb w0 w R (.cells #[.int .i64 5, .int .i64 at_, .int .i64 n, .string name, .slice pa pn pc] 43) fb xb s t D E W → W.cell? ⟨w.heap.size, 0, none⟩ = some (.int .i64 5) ∧ W.cell? ⟨w.heap.size, 1, none⟩ = some (.int .i64 at_) ∧ W.cell? ⟨w.heap.size, 2, none⟩ = some (.int .i64 n) ∧ W.cell? ⟨w.heap.size, 3, none⟩ = some (.string name) ∧ W.cell? ⟨w.heap.size, 4, none⟩ = some (.slice pa pn pc) from fun s t D E W hW => ⟨hW.cell 0, hW.cell 1, hW.cell 2, hW.cell 3, hW.cell 4⟩)
  have J1 := Jb.start h (.cells #[.int .i64 5, .int .i64 at_, .int .i64 n, .string name, .slice pa pn pc] 43)
  have BK := Lib.hid (show ∀ (s' t' : Nat) (D' E' : Doc) (W : World), Jb w0 w R (.cells #[.int .i64 5, .int .i64 at_, .int .i64 n, .string name, .slice pa pn pc] 43) fb xb s' t' D' E' W → JS w0 w1 R W fb xb s' t' D' E' from fun s' t' D' E' W hW => hW.back h)
  obtain ⟨ob, hob⟩ : ∃ ob : Obj, ob = .cells #[.int .i64 5, .int .i64 at_, .int .i64 n, .string name, .slice pa pn pc] 43 := ⟨_, rfl⟩
  rw [← hob] at BX J1 BK
  obtain ⟨D', hD'⟩ : ∃ D' : Doc, D' = crashD D at_ n := ⟨_, rfl⟩
  obtain ⟨E', hE'⟩ : ∃ E' : Doc, E' = crashD E at_ n := ⟨_, rfl⟩
  have Ca := Lib.hid (show ∀ W, Jb w0 w R ob fb xb s t D E W → Calls Try.prog 24 #[.pointer (some ⟨fb, 0, none⟩), .int .i64 at_, .int .i64 n] W fun e w' => e = .returned (.tuple #[]) ∧ Jb w0 w R ob fb xb (s + 2) t D' E w' from fun W hW => by
    rw [hD']
    exact (js_crash hW.out (by omega) at_ n hat hn).mono fun e w' h => ⟨h.1, ⟨h.2⟩⟩)
  have Xa := Lib.hid (show ∀ W, Jb w0 w R ob fb xb (s + 2) t D' E W → Calls Try.prog 38 #[.pointer (some ⟨xb, 0, none⟩), .int .i64 at_, .int .i64 n] W fun e w' => e = .returned (.tuple #[]) ∧ Jb w0 w R ob fb xb (s + 2) (t + 1) D' E' w' from fun W hW => by
    rw [hE']
    exact (js_xcrash hW.out (by omega) at_ n hat hn).mono fun e w' h => ⟨h.1, ⟨h.2⟩⟩)
  obtain ⟨nD, hnD⟩ : ∃ nD : Int, nD = ((findD D' name).1.length : Int) := ⟨_, rfl⟩
  obtain ⟨eD, heD⟩ : ∃ eD : Int, eD = (findD D' name).2 := ⟨_, rfl⟩
  obtain ⟨nE, hnE⟩ : ∃ nE : Int, nE = ((findD E' name).1.length : Int) := ⟨_, rfl⟩
  obtain ⟨eE, heE⟩ : ∃ eE : Int, eE = (findD E' name).2 := ⟨_, rfl⟩
  have SZ := Lib.hid (show ∀ W, Jb w0 w R ob fb xb (s + 2) (t + 1) D' E' W → Calls Try.prog 25 #[.pointer (some ⟨fb, 0, none⟩), .string name] W fun e w' => e = .returned (.tuple #[.int .i64 nD, .int .i64 eD]) ∧ Jb w0 w R ob fb xb (s + 2) (t + 1) D' E' w' from fun W hW => by
    rw [hnD, heD]
    exact (js_size hW.out name).mono fun e w' h => ⟨h.1, ⟨h.2.1⟩⟩)
  have SX := Lib.hid (show ∀ W, Jb w0 w R ob fb xb (s + 2) (t + 1) D' E' W → Calls Try.prog 40 #[.pointer (some ⟨xb, 0, none⟩), .string name] W fun e w' => e = .returned (.tuple #[.int .i64 nE, .int .i64 eE]) ∧ Jb w0 w R ob fb xb (s + 2) (t + 1) D' E' w' from fun W hW => by
    rw [hnE, heE]
    exact (js_xsize hW.out (by omega) name).mono fun e w' h => ⟨h.1, ⟨h.2.1⟩⟩)
  have HN := Lib.hid (show D = E → nD = nE ∧ eD = eE from fun e => by rw [hnD, hnE, heD, heE, hD', hE', e]; exact ⟨rfl, rfl⟩)
  have HSD := Lib.hid (show stepD D ⟨5, at_, n, name, b⟩ = D' from by rw [hD']; rfl)
  have HSE := Lib.hid (show stepD E ⟨5, at_, n, name, b⟩ = E' from by rw [hE']; rfl)
  obtain ⟨x0, x1, x2, x3, x4⟩ := BX.out _ _ _ _ _ J1
  have HOB := Lib.hid hob
  have JH := Lib.hid J1
  rw [hob] at x0 x1 x2 x3 x4
  clear hD' hE' hnD hnE heD heE hp hfew hsum hat hn h J1 hob
  go_enter Try.func19, Try.ntmps19
  go_wp2_with fail
  rw [← HOB.out]
  refine (Ca.out _ JH.out).mono ?_
  rintro _ w5 ⟨rfl, j5⟩
  have J5 := Lib.hid j5
  obtain ⟨q0, q1, q2, q3, q4⟩ := BX.out _ _ _ _ _ j5
  clear j5 x0 x1 x2 x3 x4
  go_wp2_with fail
  refine (Xa.out _ J5.out).mono ?_
  rintro _ w6 ⟨rfl, j6⟩
  have JT := Lib.hid j6
  clear j6 q0 q1 q2 q3 q4
  obtain ⟨y0, y1, y2, y3, y4⟩ := BX.out _ _ _ _ _ JT.out
  clear y0 y1 y2 y4
  go_wp2_with fail
  refine (SZ.out _ JT.out).mono ?_
  rintro _ wa ⟨rfl, ja⟩
  have JA := Lib.hid ja
  obtain ⟨z0, z1, z2, z3, z4⟩ := BX.out _ _ _ _ _ ja
  clear ja z0 z1 z2 z4
  go_wp2_with fail
  refine (SX.out _ JA.out).mono ?_
  rintro _ wb ⟨rfl, jb⟩
  have FIN := Lib.hid (show JS w0 w1 R wb fb xb (s + 2) (t + 1) D' E' from BK.out _ _ _ _ _ (jb.mono (by omega) (by omega)))
  clear jb
  by_cases hN : nD = nE
  · have n1 : (nD == nE) = true := by simpa using hN
    have HNN := Lib.hid hN
    clear hN
    obtain ⟨eb, heb⟩ : ∃ eb : Bool, eb = (eD == eE) := ⟨_, rfl⟩
    have HEB := Lib.hid (show D = E → eb = true from fun e => by rw [heb, (HN.out e).2]; simp)
    have heb2 : (eD == eE) = eb := heb.symm
    clear heb
    cases eb with
    | true =>
      go_wp2
      go_ret
      refine ret_some (b := true) (by simp [heb2]) ⟨fun e => rfl, ?_⟩
      rw [HSD.out, HSE.out]
      exact FIN.out
    | false =>
      go_wp2
      go_ret
      refine ret_some (b := false) (by simp [heb2]) ⟨fun e => HEB.out e, ?_⟩
      rw [HSD.out, HSE.out]
      exact FIN.out
  · have n1 : (nD == nE) = false := by simpa using hN
    have HNN := Lib.hid (show ¬ D = E from fun e => hN (HN.out e).1)
    clear hN
    go_wp2
    go_ret
    refine ret_some (b := false) rfl ⟨fun e => absurd e HNN.out, ?_⟩
    rw [HSD.out, HSE.out]
    exact FIN.out
set_option maxRecDepth 20000 in
set_option maxHeartbeats 4000000 in
theorem act0 (h : JS w0 w1 R w fb xb s t D E) (hs : s ≤ 800000) (ht : t ≤ 80000) (a : Actn) (pv : Value) (hA : ActOk w0 a pv) (hk : a.kind ≠ 1 ∧ a.kind ≠ 2 ∧ a.kind ≠ 3 ∧ a.kind ≠ 4 ∧ a.kind ≠ 5 ∧ a.kind ≠ 6) :
    Calls Try.prog 19 #[.pointer (some ⟨fb, 0, none⟩), .pointer (some ⟨xb, 0, none⟩), .agg #[.int .i64 a.kind, .int .i64 a.at_, .int .i64 a.n, .string a.name, pv]] w (ActP w0 w1 R fb xb s t D E a) := by
  obtain ⟨kind, at_, n, name, b⟩ := a
  obtain ⟨hp, hfew, hsum, hat, hn⟩ := hA
  simp only at hk hp hfew hsum hat hn ⊢
  obtain ⟨h1, h2, h3, h4, h5, h6⟩ := hk
  have b1 : (kind == 1) = false := by simpa using h1
  have b2 : (kind == 2) = false := by simpa using h2
  have b3 : (kind == 3) = false := by simpa using h3
  have b4 : (kind == 4) = false := by simpa using h4
  have b5 : (kind == 5) = false := by simpa using h5
  have b6 : (kind == 6) = false := by simpa using h6
  obtain ⟨pa, pn, pc, hpv⟩ : ∃ pa pn pc, pv = .slice pa pn pc := by obtain ⟨a, c, e, _⟩ := hp; exact ⟨_, _, _, e⟩
  subst hpv
  have BX := Lib.hid (show ∀ (s t : Nat) (D E : Doc) (W : World), Jb w0 w R (.cells #[.int .i64 kind, .int .i64 at_, .int .i64 n, .string name, .slice pa pn pc] 43) fb xb s t D E W → W.cell? ⟨w.heap.size, 0, none⟩ = some (.int .i64 kind) ∧ W.cell? ⟨w.heap.size, 1, none⟩ = some (.int .i64 at_) ∧ W.cell? ⟨w.heap.size, 2, none⟩ = some (.int .i64 n) ∧ W.cell? ⟨w.heap.size, 3, none⟩ = some (.string name) ∧ W.cell? ⟨w.heap.size, 4, none⟩ = some (.slice pa pn pc) from fun s t D E W hW => ⟨hW.cell 0, hW.cell 1, hW.cell 2, hW.cell 3, hW.cell 4⟩)
  have J1 := Jb.start h (.cells #[.int .i64 kind, .int .i64 at_, .int .i64 n, .string name, .slice pa pn pc] 43)
  have BK := Lib.hid (show ∀ (s' t' : Nat) (D' E' : Doc) (W : World), Jb w0 w R (.cells #[.int .i64 kind, .int .i64 at_, .int .i64 n, .string name, .slice pa pn pc] 43) fb xb s' t' D' E' W → JS w0 w1 R W fb xb s' t' D' E' from fun s' t' D' E' W hW => hW.back h)
  obtain ⟨ob, hob⟩ : ∃ ob : Obj, ob = .cells #[.int .i64 kind, .int .i64 at_, .int .i64 n, .string name, .slice pa pn pc] 43 := ⟨_, rfl⟩
  rw [← hob] at BX J1 BK
  obtain ⟨nD, hnD⟩ : ∃ nD : Int, nD = ((findD D name).1.length : Int) := ⟨_, rfl⟩
  obtain ⟨eD, heD⟩ : ∃ eD : Int, eD = (findD D name).2 := ⟨_, rfl⟩
  obtain ⟨nE, hnE⟩ : ∃ nE : Int, nE = ((findD E name).1.length : Int) := ⟨_, rfl⟩
  obtain ⟨eE, heE⟩ : ∃ eE : Int, eE = (findD E name).2 := ⟨_, rfl⟩
  have SZ := Lib.hid (show ∀ W, Jb w0 w R ob fb xb (s) (t) D E W → Calls Try.prog 25 #[.pointer (some ⟨fb, 0, none⟩), .string name] W fun e w' => e = .returned (.tuple #[.int .i64 nD, .int .i64 eD]) ∧ Jb w0 w R ob fb xb (s) (t) D E w' from fun W hW => by
    rw [hnD, heD]
    exact (js_size hW.out name).mono fun e w' h => ⟨h.1, ⟨h.2.1⟩⟩)
  have SX := Lib.hid (show ∀ W, Jb w0 w R ob fb xb (s) (t) D E W → Calls Try.prog 40 #[.pointer (some ⟨xb, 0, none⟩), .string name] W fun e w' => e = .returned (.tuple #[.int .i64 nE, .int .i64 eE]) ∧ Jb w0 w R ob fb xb (s) (t) D E w' from fun W hW => by
    rw [hnE, heE]
    exact (js_xsize hW.out (by omega) name).mono fun e w' h => ⟨h.1, ⟨h.2.1⟩⟩)
  have HN := Lib.hid (show D = E → nD = nE ∧ eD = eE from fun e => by rw [hnD, hnE, heD, heE, e]; exact ⟨rfl, rfl⟩)
  have HSD := Lib.hid (show stepD D ⟨kind, at_, n, name, b⟩ = D from by simp [stepD, h1, h2, h3, h4, h5])
  have HSE := Lib.hid (show stepD E ⟨kind, at_, n, name, b⟩ = E from by simp [stepD, h1, h2, h3, h4, h5])
  obtain ⟨x0, x1, x2, x3, x4⟩ := BX.out _ _ _ _ _ J1
  have HOB := Lib.hid hob
  have JH := Lib.hid J1
  rw [hob] at x0 x1 x2 x3 x4
  clear hnD hnE heD heE hp hfew hsum hat hn h J1 hob h1 h2 h3 h4 h5 h6
  go_enter Try.func19, Try.ntmps19
  have JT := JH
  go_wp2_with fail
  rw [← HOB.out]
  refine (SZ.out _ JT.out).mono ?_
  rintro _ wa ⟨rfl, ja⟩
  have JA := Lib.hid ja
  obtain ⟨z0, z1, z2, z3, z4⟩ := BX.out _ _ _ _ _ ja
  clear ja z0 z1 z2 z4
  go_wp2_with fail
  refine (SX.out _ JA.out).mono ?_
  rintro _ wb ⟨rfl, jb⟩
  have FIN := Lib.hid (show JS w0 w1 R wb fb xb (s + 2) (t + 1) D E from BK.out _ _ _ _ _ (jb.mono (by omega) (by omega)))
  clear jb
  by_cases hN : nD = nE
  · have n1 : (nD == nE) = true := by simpa using hN
    have HNN := Lib.hid hN
    clear hN
    obtain ⟨eb, heb⟩ : ∃ eb : Bool, eb = (eD == eE) := ⟨_, rfl⟩
    have HEB := Lib.hid (show D = E → eb = true from fun e => by rw [heb, (HN.out e).2]; simp)
    have heb2 : (eD == eE) = eb := heb.symm
    clear heb
    cases eb with
    | true =>
      go_wp2
      go_ret
      refine ret_some (b := true) (by simp [heb2]) ⟨fun e => rfl, ?_⟩
      rw [HSD.out, HSE.out]
      exact FIN.out
    | false =>
      go_wp2
      go_ret
      refine ret_some (b := false) (by simp [heb2]) ⟨fun e => HEB.out e, ?_⟩
      rw [HSD.out, HSE.out]
      exact FIN.out
  · have n1 : (nD == nE) = false := by simpa using hN
    have HNN := Lib.hid (show ¬ D = E from fun e => hN (HN.out e).1)
    clear hN
    go_wp2
    go_ret
    refine ret_some (b := false) rfl ⟨fun e => absurd e HNN.out, ?_⟩
    rw [HSD.out, HSE.out]
    exact FIN.out
set_option maxRecDepth 20000 in
set_option maxHeartbeats 4000000 in
theorem act6 (h : JS w0 w1 R w fb xb s t D E) (hs : s ≤ 800000) (ht : t ≤ 80000) (a : Actn) (pv : Value) (hA : ActOk w0 a pv) (hk : a.kind = 6) :
    Calls Try.prog 19 #[.pointer (some ⟨fb, 0, none⟩), .pointer (some ⟨xb, 0, none⟩), .agg #[.int .i64 a.kind, .int .i64 a.at_, .int .i64 a.n, .string a.name, pv]] w (ActP w0 w1 R fb xb s t D E a) := by
  obtain ⟨kind, at_, n, name, b⟩ := a
  obtain ⟨hp, hfew, hsum, hat, hn⟩ := hA
  simp only at hk hp hfew hsum hat hn ⊢
  subst hk
  obtain ⟨pa, pn, pc, hpv⟩ : ∃ pa pn pc, pv = .slice pa pn pc := by obtain ⟨a, c, e, _⟩ := hp; exact ⟨_, _, _, e⟩
  subst hpv
  have BX := Lib.hid (show ∀ (s t : Nat) (D E : Doc) (W : World), Jb w0 w R (.cells #[.int .i64 6, .int .i64 at_, .int .i64 n, .string name, .slice pa pn pc] 43) fb xb s t D E W → W.cell? ⟨w.heap.size, 0, none⟩ = some (.int .i64 6) ∧ W.cell? ⟨w.heap.size, 1, none⟩ = some (.int .i64 at_) ∧ W.cell? ⟨w.heap.size, 2, none⟩ = some (.int .i64 n) ∧ W.cell? ⟨w.heap.size, 3, none⟩ = some (.string name) ∧ W.cell? ⟨w.heap.size, 4, none⟩ = some (.slice pa pn pc) from fun s t D E W hW => ⟨hW.cell 0, hW.cell 1, hW.cell 2, hW.cell 3, hW.cell 4⟩)
  have J1 := Jb.start h (.cells #[.int .i64 6, .int .i64 at_, .int .i64 n, .string name, .slice pa pn pc] 43)
  have BK := Lib.hid (show ∀ (s' t' : Nat) (D' E' : Doc) (W : World), Jb w0 w R (.cells #[.int .i64 6, .int .i64 at_, .int .i64 n, .string name, .slice pa pn pc] 43) fb xb s' t' D' E' W → JS w0 w1 R W fb xb s' t' D' E' from fun s' t' D' E' W hW => hW.back h)
  obtain ⟨ob, hob⟩ : ∃ ob : Obj, ob = .cells #[.int .i64 6, .int .i64 at_, .int .i64 n, .string name, .slice pa pn pc] 43 := ⟨_, rfl⟩
  rw [← hob] at BX J1 BK
  have hGG := h.good
  obtain ⟨lD, hlD⟩ : ∃ lD, lD = (readD D name at_ n).1 := ⟨_, rfl⟩
  obtain ⟨eD, heD⟩ : ∃ eD : Int, eD = (readD D name at_ n).2 := ⟨_, rfl⟩
  obtain ⟨lE, hlE⟩ : ∃ lE, lE = (readD E name at_ n).1 := ⟨_, rfl⟩
  obtain ⟨eE, heE⟩ : ∃ eE : Int, eE = (readD E name at_ n).2 := ⟨_, rfl⟩
  have RD := Lib.hid (show ∀ W, Jb w0 w R ob fb xb s t D E W → Calls Try.prog 14 #[.pointer (some ⟨fb, 0, none⟩), .string name, .int .i64 at_, .int .i64 n] W fun e w' => ∃ u, e = .returned (.tuple #[u, .int .i64 eD]) ∧ Hid (HoldsAt w' u lD) ∧ Jb w0 w R ob fb xb s t D E w' from fun W hW => by
    rw [heD, hlD]
    exact (js_read hW.out name at_ n hat hn).mono fun e w' ⟨⟨u, h1, h2⟩, h3, _⟩ => ⟨u, h1, Lib.hid h2.at, ⟨h3⟩⟩)
  have RX := Lib.hid (show ∀ W, Jb w0 w R ob fb xb s t D E W → Calls Try.prog 39 #[.pointer (some ⟨xb, 0, none⟩), .string name, .int .i64 at_, .int .i64 n] W fun e w' => ∃ u, e = .returned (.tuple #[u, .int .i64 eE]) ∧ Hid (HoldsAt w' u lE) ∧ Jb w0 w R ob fb xb s t D E w' ∧ Grow W w' from fun W hW => by
    rw [heE, hlE]
    exact (js_xread hW.out (by omega) name at_ n hat hn).mono fun e w' ⟨⟨u, h1, h2⟩, h3, h4⟩ => ⟨u, h1, Lib.hid h2.at, ⟨h3⟩, h4⟩)
  have HL := Lib.hid (show lD.length ≤ 1073741824 ∧ lE.length ≤ 1073741824 from by rw [hlD, hlE]; exact ⟨readD_len hGG.1 _ _ _, readD_len hGG.2 _ _ _⟩)
  have HN := Lib.hid (show D = E → lD = lE ∧ eD = eE from fun e => by rw [hlD, hlE, heD, heE, e]; exact ⟨rfl, rfl⟩)
  have HSD := Lib.hid (show stepD D ⟨6, at_, n, name, b⟩ = D from by simp [stepD])
  have HSE := Lib.hid (show stepD E ⟨6, at_, n, name, b⟩ = E from by simp [stepD])
  obtain ⟨x0, x1, x2, x3, x4⟩ := BX.out _ _ _ _ _ J1
  have HOB := Lib.hid hob
  have JH := Lib.hid J1
  rw [hob] at x0 x1 x2 x3 x4
  clear hlD hlE heD heE hp hfew hsum hat hn h J1 hob hGG
  go_enter Try.func19, Try.ntmps19
  go_wp2_with fail
  rw [← HOB.out]
  refine (RD.out _ JH.out).mono ?_
  rintro _ w5 ⟨u5, rfl, c5, j5⟩
  have J5 := Lib.hid j5
  obtain ⟨q0, q1, q2, q3, q4⟩ := BX.out _ _ _ _ _ j5
  clear j5 x0 x1 x2 x3 x4
  go_wp2_with fail
  refine (RX.out _ J5.out).mono ?_
  rintro _ w6 ⟨u6, rfl, c6, j6, g6⟩
  have SM := same_any u5 u6 lD lE w6 (c5.out.grow g6) c6.out HL.out.1 HL.out.2
  obtain ⟨sb, hsb⟩ : ∃ sb : Bool, sb = decide (lD = lE) := ⟨_, rfl⟩
  rw [← hsb] at SM
  have HSB := Lib.hid (show D = E → sb = true from fun e => by rw [hsb, (HN.out e).1]; simp)
  have SM := Lib.hid SM
  have J6 := Lib.hid j6
  clear j6 q0 q1 q2 q3 q4 c5 c6 g6 hsb
  by_cases hN : eD = eE
  · have n1 : (eD == eE) = true := by simpa using hN
    clear hN
    go_wp2_with fail
    refine SM.out.mono ?_
    rintro _ w7 ⟨rfl, g7⟩
    have FIN := Lib.hid (show JS w0 w1 R w7 fb xb (s + 2) (t + 1) D E from BK.out _ _ _ _ _ ((J6.out.grow g7).mono (by omega) (by omega)))
    clear g7
    go_wp2
    go_ret
    refine ret_some (b := sb) rfl ⟨HSB.out, ?_⟩
    rw [HSD.out, HSE.out]
    exact FIN.out
  · have n1 : (eD == eE) = false := by simpa using hN
    have HNN := Lib.hid (show ¬ D = E from fun e => hN (HN.out e).2)
    clear hN
    have FIN := Lib.hid (show JS w0 w1 R w6 fb xb (s + 2) (t + 1) D E from BK.out _ _ _ _ _ (J6.out.mono (by omega) (by omega)))
    go_wp2
    go_ret
    refine ret_some (b := false) rfl ⟨fun e => absurd e HNN.out, ?_⟩
    rw [HSD.out, HSE.out]
    exact FIN.out
theorem act_any (h : JS w0 w1 R w fb xb s t D E) (hs : s ≤ 800000) (ht : t ≤ 80000) (a : Actn) (pv : Value) (hA : ActOk w0 a pv) :
    Calls Try.prog 19 #[.pointer (some ⟨fb, 0, none⟩), .pointer (some ⟨xb, 0, none⟩), .agg #[.int .i64 a.kind, .int .i64 a.at_, .int .i64 a.n, .string a.name, pv]] w (ActP w0 w1 R fb xb s t D E a) := by
  by_cases h1 : a.kind = 1
  · exact act1 h hs ht a pv hA h1
  · by_cases h2 : a.kind = 2
    · exact act2 h hs ht a pv hA h2
    · by_cases h3 : a.kind = 3
      · exact act3 h hs ht a pv hA h3
      · by_cases h4 : a.kind = 4
        · exact act4 h hs ht a pv hA h4
        · by_cases h5 : a.kind = 5
          · exact act5 h hs ht a pv hA h5
          · by_cases h6 : a.kind = 6
            · exact act6 h hs ht a pv hA h6
            · exact act0 h hs ht a pv hA ⟨h1, h2, h3, h4, h5, h6⟩
end Go.Proofs.Yticpldjcmhpjoaa
