/-
  The contract of stroke; the walk of sixAt.
-/
import Derived.Test.YtldcbkememonaaaT1
namespace Go.Proofs.Ytldcbkememonaaa
open Go.RowKit
set_option linter.unusedVariables false
set_option linter.unusedSimpArgs false

/-- the set of an item -/
def itM (it : It) : Nat → Bool := match it.six with | some d => sixM d | none => fun _ => false
/-- what stroke and item answer -/
def ItPost (B r : Nat) (s : ByteArray) (st : RS) (v : Value) (res : Option It × Nat) (w : World) (e : Ending) (w' : World) : Prop :=
  Moved B r s st v res.2 w w' ∧ ∃ (a : Nat) (m : Nat → Bool) (ok : Bool), e = .returned (.tuple #[.int .u8 a, .agg (arrC m), .bool ok]) ∧
    (match res.1 with | some it => a = it.a ∧ m = itM it ∧ ok = true | none => ok = false)
theorem Moved.stay {B r : Nat} {s : ByteArray} {st : RS} {v : Value} {w w' : World} (h : RA B r s st v w) (hg : Grow w w') : Moved B r s st v st.at_ w w' := ⟨h.grow hg, Fr.of_below hg⟩

theorem stroke_any (B r : Nat) (s : ByteArray) (st : RS) (v : Value) (w : World) (h : RA B r s st v w) (hs : s.size ≤ 100000) (ha : st.at_ ≤ s.size) :
    Calls Try.prog 59 #[.pointer (some ⟨r, 0, none⟩)] w (ItPost B r s st v (strokeF s st.at_) w) := by
  by_cases hp : st.at_ + 1 < s.size
  · cases h6 : sixOk (by_ s (st.at_ + 1)) with
    | true =>
      refine (stroke_six B r s st v w h hp hs h6).mono ?_
      rintro e w' ⟨rfl, hm⟩
      have e : strokeF s st.at_ = (some ⟨0, some (by_ s (st.at_ + 1)), st.at_ + 2⟩, st.at_ + 2) := by simp [strokeF, hp, h6]
      rw [e]
      exact ⟨hm, 0, sixM (by_ s (st.at_ + 1)), true, rfl, rfl, rfl, rfl⟩
    | false =>
      refine (stroke_byte B r s st v w h hp hs h6).mono ?_
      rintro e w' ⟨rfl, hm⟩
      cases hw : wordB (by_ s (st.at_ + 1)) with
      | true =>
        have e : strokeF s st.at_ = (none, st.at_ + 2) := by simp [strokeF, hp, h6, hw]
        rw [e]
        exact ⟨hm, by_ s (st.at_ + 1), _, false, rfl, rfl⟩
      | false =>
        have e : strokeF s st.at_ = (some ⟨by_ s (st.at_ + 1), none, st.at_ + 2⟩, st.at_ + 2) := by simp [strokeF, hp, h6, hw]
        rw [e]
        exact ⟨hm, by_ s (st.at_ + 1), _, true, rfl, rfl, rfl, rfl⟩
  · refine (stroke_end B r s st v w h hp hs ha).mono ?_
    rintro e w' ⟨rfl, hg⟩
    have e : strokeF s st.at_ = (none, st.at_) := by simp [strokeF, hp]
    rw [e]
    exact ⟨Moved.stay h hg, 0, _, false, rfl, rfl⟩

theorem sixAt_end (B r : Nat) (s : ByteArray) (st : RS) (v : Value) (i : Nat) (w : World) (h : RA B r s st v w) (hi : i ≤ 100000) (hp : ¬ i + 1 < s.size) :
    Calls Try.prog 62 #[.pointer (some ⟨r, 0, none⟩), .int .i64 i] w fun e w' => e = .returned (.bool false) ∧ Grow w w' := by
  have c0 := h.c0
  have k1 : ¬ (i : Int) + 1 < (s.size : Int) := by omega
  have k2 : (s.size : Int) ≤ (i : Int) + 1 := by omega
  have k0 : (0 : Int) ≤ (i : Int) := by omega
  have k3 : (i : Int) ≤ 100000 := by omega
  clear h hp hi
  go_enter Try.func62, Try.ntmps62
  go_wp2
  go_ret
  exact ⟨rfl, Grow.refl _⟩

theorem sixAt_no (B r : Nat) (s : ByteArray) (st : RS) (v : Value) (i : Nat) (w : World) (h : RA B r s st v w) (hi : i ≤ 100000) (hp : i + 1 < s.size) (h92 : by_ s i ≠ 92) :
    Calls Try.prog 62 #[.pointer (some ⟨r, 0, none⟩), .int .i64 i] w fun e w' => e = .returned (.bool false) ∧ Grow w w' := by
  have c0 := h.c0
  have k1 : (i : Int) + 1 < (s.size : Int) := by omega
  have k0 : (0 : Int) ≤ (i : Int) := by omega
  have k3 : (i : Int) ≤ 100000 := by omega
  have k4 : (i : Int) < (s.size : Int) := by omega
  have k5 : i < s.size := by omega
  obtain ⟨b, hb⟩ : ∃ b, b = by_ s i := ⟨_, rfl⟩
  have hbs : s[i].toNat = b := by rw [hb, by_at s i k5]
  rw [← hb] at h92
  have t1 : ((b : Int) == 92) = false := by simp; omega
  have t2 : ((b : Int) != 92) = true := by simp; omega
  clear h hp hi h92 hb
  go_enter Try.func62, Try.ntmps62
  go_wp2
  go_ret
  exact ⟨rfl, Grow.refl _⟩

set_option maxRecDepth 100000 in
theorem sixAt_yes (B r : Nat) (s : ByteArray) (st : RS) (v : Value) (i : Nat) (w : World) (h : RA B r s st v w) (hi : i ≤ 100000) (hp : i + 1 < s.size) (h92 : by_ s i = 92) :
    Calls Try.prog 62 #[.pointer (some ⟨r, 0, none⟩), .int .i64 i] w fun e w' => e = .returned (.bool (sixOk (by_ s (i + 1)))) ∧ Grow w w' := by
  have c0 := h.c0
  have k1 : (i : Int) + 1 < (s.size : Int) := by omega
  have k0 : (0 : Int) ≤ (i : Int) := by omega
  have k3 : (i : Int) ≤ 100000 := by omega
  have k4 : (i : Int) < (s.size : Int) := by omega
  have k5 : i < s.size := by omega
  have k6 : (0 : Int) ≤ (i : Int) + 1 := by omega
  have hbs : s[i].toNat = 92 := by rw [← h92, by_at s i k5]
  obtain ⟨c, hc⟩ : ∃ c, c = by_ s (i + 1) := ⟨_, rfl⟩
  have hcs : s[i + 1].toNat = c := by rw [hc, by_at s (i + 1) hp]
  have hc256 : c < 256 := by rw [hc]; exact by_lt _ _
  rw [← hc]
  obtain ⟨m, sx⟩ : ∃ m, ∀ W, Calls Try.prog 63 #[.int .u8 c] W fun e w' => e = .returned (.tuple #[.agg (arrC m), .bool (sixOk c)]) ∧ Below W.heap.size W w' := by
    cases h6 : sixOk c with
    | true => exact ⟨_, fun W => six_yes c hc256 h6 W⟩
    | false => exact ⟨_, fun W => six_no c hc256 h6 W⟩
  have SX := Lib.hid sx
  clear h h92 hc sx
  go_enter Try.func62, Try.ntmps62
  go_wp2_with fail
  refine (SX.out _).mono ?_
  rintro e w5 ⟨rfl, b5⟩
  have B5 := Lib.hid b5
  have N5 := Lib.hid (Arr.new w5)
  have SA := Lib.hid (size_arr m)
  have OS := Lib.hid (show (arrC fun _ => false).size = (arrC m).size from by rw [arrC_size, arrC_size])
  clear b5 SX
  go_wp2_with (refine wpList_store_row rfl 110 _ _ rfl w5.heap.size (arrC m) rfl rfl 110 (arrC fun _ => false) N5.out SA.out OS.out (arrC_one _) ?_)
  go_ret
  exact ⟨rfl, below_row (Below.alloc B5.out B5.out.size _) _ B5.out.size⟩

theorem sixAt_any (B r : Nat) (s : ByteArray) (st : RS) (v : Value) (i : Nat) (w : World) (h : RA B r s st v w) (hi : i ≤ 100000) :
    Calls Try.prog 62 #[.pointer (some ⟨r, 0, none⟩), .int .i64 i] w fun e w' => e = .returned (.bool (sixAtF s i)) ∧ Grow w w' := by
  by_cases hp : i + 1 < s.size
  · by_cases h92 : by_ s i = 92
    · have e : sixAtF s i = sixOk (by_ s (i + 1)) := by simp [sixAtF, hp, h92]
      rw [e]; exact sixAt_yes B r s st v i w h hi hp h92
    · have e : sixAtF s i = false := by simp [sixAtF, h92]
      rw [e]; exact sixAt_no B r s st v i w h hi hp h92
  · have e : sixAtF s i = false := by simp [sixAtF, hp]
    rw [e]; exact sixAt_end B r s st v i w h hi hp
end Go.Proofs.Ytldcbkememonaaa
