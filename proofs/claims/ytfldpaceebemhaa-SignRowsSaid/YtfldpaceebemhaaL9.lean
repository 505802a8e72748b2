/-
  The walks of sign.Sort and graticuleref17.Sort.
-/
import Derived.Test.YtfldpaceebemhaaL8
namespace Go.Proofs.Ytfldpaceebemhaa
open Go.RowKit

theorem bcell {W w1 : World} (hb : Below W.heap.size W w1) : (∀ b o, b < W.heap.size → w1.cell? ⟨b, o, none⟩ = W.cell? ⟨b, o, none⟩) ∧ (∀ b o, b < W.heap.size → w1.frozen? ⟨b, o, none⟩ = W.frozen? ⟨b, o, none⟩) :=
  ⟨fun b o h => hb.cell (p := ⟨b, o, none⟩) h, fun b o h => hb.frozen (p := ⟨b, o, none⟩) h⟩
theorem sort8_1 (kd n : Int) (tx : ByteArray) (ao : Option Addr) (l c : Nat)  (w : World) (ht : tx.size ≤ maxLen) :
    Calls Try.prog 8 #[.agg #[.int .i64 kd, .string tx, .int .i64 n, .slice ao l c], .int .i64 1] w fun e w' => e = .returned (.bool (sortB kd tx n 1)) ∧ Below w.heap.size w w' := by
  rw [show sortB kd tx n 1 = (kd == 2 || kd == 1) from rfl]
  cases t2 : (kd == 2) with
  | true =>
    cases t1 : (kd == 1) with
    | true =>
      go_enter Try.func8, Try.ntmps8
      go_wp2
      go_ret
      exact ⟨rfl, (Below.refl _ _).alloc (Nat.le_refl _) _⟩
    | false =>
      go_enter Try.func8, Try.ntmps8
      go_wp2
      go_ret
      exact ⟨rfl, (Below.refl _ _).alloc (Nat.le_refl _) _⟩
  | false =>
    cases t1 : (kd == 1) with
    | true =>
      go_enter Try.func8, Try.ntmps8
      go_wp2
      go_ret
      exact ⟨rfl, (Below.refl _ _).alloc (Nat.le_refl _) _⟩
    | false =>
      go_enter Try.func8, Try.ntmps8
      go_wp2
      go_ret
      exact ⟨rfl, (Below.refl _ _).alloc (Nat.le_refl _) _⟩

theorem sort8_2 (kd n : Int) (tx : ByteArray) (ao : Option Addr) (l c : Nat)  (w : World) (ht : tx.size ≤ maxLen) :
    Calls Try.prog 8 #[.agg #[.int .i64 kd, .string tx, .int .i64 n, .slice ao l c], .int .i64 2] w fun e w' => e = .returned (.bool (sortB kd tx n 2)) ∧ Below w.heap.size w w' := by
  rw [show sortB kd tx n 2 = (kd == 3) from rfl]
  cases t1 : (kd == 3) with
  | true =>
    go_enter Try.func8, Try.ntmps8
    go_wp2
    go_ret
    exact ⟨rfl, (Below.refl _ _).alloc (Nat.le_refl _) _⟩
  | false =>
    go_enter Try.func8, Try.ntmps8
    go_wp2
    go_ret
    exact ⟨rfl, (Below.refl _ _).alloc (Nat.le_refl _) _⟩

theorem sort8_3 (kd n : Int) (tx : ByteArray) (ao : Option Addr) (l c : Nat)  (w : World) (ht : tx.size ≤ maxLen) :
    Calls Try.prog 8 #[.agg #[.int .i64 kd, .string tx, .int .i64 n, .slice ao l c], .int .i64 3] w fun e w' => e = .returned (.bool (sortB kd tx n 3)) ∧ Below w.heap.size w w' := by
  rw [show sortB kd tx n 3 = (kd == 3 && n.tmod 1000000 == 0) from rfl]
  cases t2 : (kd == 3) with
  | true =>
    cases t1 : (n.tmod 1000000 == 0) with
    | true =>
      go_enter Try.func8, Try.ntmps8
      go_wp2
      go_ret
      exact ⟨rfl, (Below.refl _ _).alloc (Nat.le_refl _) _⟩
    | false =>
      go_enter Try.func8, Try.ntmps8
      go_wp2
      go_ret
      exact ⟨rfl, (Below.refl _ _).alloc (Nat.le_refl _) _⟩
  | false =>
    cases t1 : (n.tmod 1000000 == 0) with
    | true =>
      go_enter Try.func8, Try.ntmps8
      go_wp2
      go_ret
      exact ⟨rfl, (Below.refl _ _).alloc (Nat.le_refl _) _⟩
    | false =>
      go_enter Try.func8, Try.ntmps8
      go_wp2
      go_ret
      exact ⟨rfl, (Below.refl _ _).alloc (Nat.le_refl _) _⟩

theorem sort8_4 (kd n : Int) (tx : ByteArray) (ao : Option Addr) (l c : Nat)  (w : World) (ht : tx.size ≤ maxLen) :
    Calls Try.prog 8 #[.agg #[.int .i64 kd, .string tx, .int .i64 n, .slice ao l c], .int .i64 4] w fun e w' => e = .returned (.bool (sortB kd tx n 4)) ∧ Below w.heap.size w w' := by
  rw [show sortB kd tx n 4 = (kd == 4) from rfl]
  cases t1 : (kd == 4) with
  | true =>
    go_enter Try.func8, Try.ntmps8
    go_wp2
    go_ret
    exact ⟨rfl, (Below.refl _ _).alloc (Nat.le_refl _) _⟩
  | false =>
    go_enter Try.func8, Try.ntmps8
    go_wp2
    go_ret
    exact ⟨rfl, (Below.refl _ _).alloc (Nat.le_refl _) _⟩

theorem sort8_5 (kd n : Int) (tx : ByteArray) (ao : Option Addr) (l c : Nat)  (w : World) (ht : tx.size ≤ maxLen) :
    Calls Try.prog 8 #[.agg #[.int .i64 kd, .string tx, .int .i64 n, .slice ao l c], .int .i64 5] w fun e w' => e = .returned (.bool (sortB kd tx n 5)) ∧ Below w.heap.size w w' := by
  rw [show sortB kd tx n 5 = (kd == 5) from rfl]
  cases t1 : (kd == 5) with
  | true =>
    go_enter Try.func8, Try.ntmps8
    go_wp2
    go_ret
    exact ⟨rfl, (Below.refl _ _).alloc (Nat.le_refl _) _⟩
  | false =>
    go_enter Try.func8, Try.ntmps8
    go_wp2
    go_ret
    exact ⟨rfl, (Below.refl _ _).alloc (Nat.le_refl _) _⟩

theorem sort8_6 (kd n : Int) (tx : ByteArray) (ao : Option Addr) (l c : Nat)  (w : World) (ht : tx.size ≤ maxLen) :
    Calls Try.prog 8 #[.agg #[.int .i64 kd, .string tx, .int .i64 n, .slice ao l c], .int .i64 6] w fun e w' => e = .returned (.bool (sortB kd tx n 6)) ∧ Below w.heap.size w w' := by
  rw [show sortB kd tx n 6 = (kd == 4 && decide (0 < (ivF tx).1)) from rfl]
  have IV := Lib.hid (fun w => iv18 tx w ht)
  have NO := Lib.hid (ivF_no tx)
  obtain ⟨v, hv⟩ : ∃ v, v = (ivF tx).1 := ⟨_, rfl⟩
  obtain ⟨b, hb⟩ : ∃ b, b = (ivF tx).2 := ⟨_, rfl⟩
  rw [← hv, ← hb] at IV NO
  rw [← hv]
  clear hv hb
  cases t1 : (kd == 4) with
  | true =>
    cases t2 : decide (0 < v) with
    | true =>
      cases b with
      | true =>
        go_enter Try.func8, Try.ntmps8
        go_wp2_with (go_at_call 18; refine (IV.out _).mono ?_; rintro e w1 ⟨rfl, b1⟩; obtain ⟨hc, hf⟩ := bcell b1)
        go_ret
        exact ⟨rfl, ((Below.refl _ _).alloc (Nat.le_refl _) _).trans (b1.mono (by simp))⟩
      | false =>
        have := NO.out rfl
        rw [this] at t2
        simp at t2
    | false =>
      cases b with
      | true =>
        go_enter Try.func8, Try.ntmps8
        go_wp2_with (go_at_call 18; refine (IV.out _).mono ?_; rintro e w1 ⟨rfl, b1⟩; obtain ⟨hc, hf⟩ := bcell b1)
        go_ret
        exact ⟨rfl, ((Below.refl _ _).alloc (Nat.le_refl _) _).trans (b1.mono (by simp))⟩
      | false =>
        go_enter Try.func8, Try.ntmps8
        go_wp2_with (go_at_call 18; refine (IV.out _).mono ?_; rintro e w1 ⟨rfl, b1⟩; obtain ⟨hc, hf⟩ := bcell b1)
        go_ret
        exact ⟨rfl, ((Below.refl _ _).alloc (Nat.le_refl _) _).trans (b1.mono (by simp))⟩
  | false =>
    go_enter Try.func8, Try.ntmps8
    go_wp2_with (go_at_call 18; refine (IV.out _).mono ?_; rintro e w1 ⟨rfl, b1⟩; obtain ⟨hc, hf⟩ := bcell b1)
    go_ret
    exact ⟨rfl, ((Below.refl _ _).alloc (Nat.le_refl _) _).trans (b1.mono (by simp))⟩

theorem sort8_7 (kd n : Int) (tx : ByteArray) (ao : Option Addr) (l c : Nat)  (w : World) (ht : tx.size ≤ maxLen) :
    Calls Try.prog 8 #[.agg #[.int .i64 kd, .string tx, .int .i64 n, .slice ao l c], .int .i64 7] w fun e w' => e = .returned (.bool (sortB kd tx n 7)) ∧ Below w.heap.size w w' := by
  rw [show sortB kd tx n 7 = (kd == 4 && kindF tx != 0) from rfl]
  have KI := Lib.hid (fun w => kind19 tx w)
  obtain ⟨v, hv⟩ : ∃ v, v = kindF tx := ⟨_, rfl⟩
  rw [← hv] at KI
  rw [← hv]
  clear hv
  cases t1 : (kd == 4) with
  | true =>
    cases t2 : (v != 0) with
    | true =>
      go_enter Try.func8, Try.ntmps8
      go_wp2_with (go_at_call 19; refine (KI.out _).mono ?_; rintro e w' ⟨rfl, rfl⟩)
      go_ret
      exact ⟨rfl, (Below.refl _ _).alloc (Nat.le_refl _) _⟩
    | false =>
      go_enter Try.func8, Try.ntmps8
      go_wp2_with (go_at_call 19; refine (KI.out _).mono ?_; rintro e w' ⟨rfl, rfl⟩)
      go_ret
      exact ⟨rfl, (Below.refl _ _).alloc (Nat.le_refl _) _⟩
  | false =>
    go_enter Try.func8, Try.ntmps8
    go_wp2_with fail
    go_ret
    exact ⟨rfl, (Below.refl _ _).alloc (Nat.le_refl _) _⟩

theorem sort8_x (kd n : Int) (tx : ByteArray) (ao : Option Addr) (l c : Nat) (srt : Int) (h1 : (srt == 1) = false) (h2 : (srt == 2) = false) (h3 : (srt == 3) = false) (h4 : (srt == 4) = false) (h5 : (srt == 5) = false) (h6 : (srt == 6) = false) (h7 : (srt == 7) = false) (w : World) :
    Calls Try.prog 8 #[.agg #[.int .i64 kd, .string tx, .int .i64 n, .slice ao l c], .int .i64 srt] w fun e w' => e = .returned (.bool false) ∧ Below w.heap.size w w' := by
  go_enter Try.func8, Try.ntmps8
  go_wp2
  go_ret
  exact ⟨rfl, (Below.refl _ _).alloc (Nat.le_refl _) _⟩
theorem sort8_any (kd n : Int) (tx : ByteArray) (ao : Option Addr) (l c : Nat) (srt : Int) (w : World) (ht : tx.size ≤ maxLen) :
    Calls Try.prog 8 #[.agg #[.int .i64 kd, .string tx, .int .i64 n, .slice ao l c], .int .i64 srt] w fun e w' => e = .returned (.bool (sortB kd tx n srt)) ∧ Below w.heap.size w w' := by
  by_cases h1 : srt = 1
  · subst h1; exact sort8_1 kd n tx ao l c w ht
  by_cases h2 : srt = 2
  · subst h2; exact sort8_2 kd n tx ao l c w ht
  by_cases h3 : srt = 3
  · subst h3; exact sort8_3 kd n tx ao l c w ht
  by_cases h4 : srt = 4
  · subst h4; exact sort8_4 kd n tx ao l c w ht
  by_cases h5 : srt = 5
  · subst h5; exact sort8_5 kd n tx ao l c w ht
  by_cases h6 : srt = 6
  · subst h6; exact sort8_6 kd n tx ao l c w ht
  by_cases h7 : srt = 7
  · subst h7; exact sort8_7 kd n tx ao l c w ht
  rw [show sortB kd tx n srt = false from by simp [sortB, h1, h2, h3, h4, h5, h6, h7]]
  exact sort8_x kd n tx ao l c srt (by simpa using h1) (by simpa using h2) (by simpa using h3) (by simpa using h4) (by simpa using h5) (by simpa using h6) (by simpa using h7) w
theorem sort9_1 (kd n : Int) (tx : ByteArray) (ao : Option Addr) (l c : Nat)  (w : World) (ht : tx.size ≤ maxLen) :
    Calls Try.prog 9 #[.agg #[.int .i64 kd, .string tx, .int .i64 n, .slice ao l c], .int .i64 1] w fun e w' => e = .returned (.bool (sortB kd tx n 1)) ∧ Below w.heap.size w w' := by
  rw [show sortB kd tx n 1 = (kd == 2 || kd == 1) from rfl]
  cases t2 : (kd == 2) with
  | true =>
    cases t1 : (kd == 1) with
    | true =>
      go_enter Try.func9, Try.ntmps9
      go_wp2
      go_ret
      exact ⟨rfl, (Below.refl _ _).alloc (Nat.le_refl _) _⟩
    | false =>
      go_enter Try.func9, Try.ntmps9
      go_wp2
      go_ret
      exact ⟨rfl, (Below.refl _ _).alloc (Nat.le_refl _) _⟩
  | false =>
    cases t1 : (kd == 1) with
    | true =>
      go_enter Try.func9, Try.ntmps9
      go_wp2
      go_ret
      exact ⟨rfl, (Below.refl _ _).alloc (Nat.le_refl _) _⟩
    | false =>
      go_enter Try.func9, Try.ntmps9
      go_wp2
      go_ret
      exact ⟨rfl, (Below.refl _ _).alloc (Nat.le_refl _) _⟩

theorem sort9_2 (kd n : Int) (tx : ByteArray) (ao : Option Addr) (l c : Nat)  (w : World) (ht : tx.size ≤ maxLen) :
    Calls Try.prog 9 #[.agg #[.int .i64 kd, .string tx, .int .i64 n, .slice ao l c], .int .i64 2] w fun e w' => e = .returned (.bool (sortB kd tx n 2)) ∧ Below w.heap.size w w' := by
  rw [show sortB kd tx n 2 = (kd == 3) from rfl]
  cases t1 : (kd == 3) with
  | true =>
    go_enter Try.func9, Try.ntmps9
    go_wp2
    go_ret
    exact ⟨rfl, (Below.refl _ _).alloc (Nat.le_refl _) _⟩
  | false =>
    go_enter Try.func9, Try.ntmps9
    go_wp2
    go_ret
    exact ⟨rfl, (Below.refl _ _).alloc (Nat.le_refl _) _⟩

theorem sort9_3 (kd n : Int) (tx : ByteArray) (ao : Option Addr) (l c : Nat)  (w : World) (ht : tx.size ≤ maxLen) :
    Calls Try.prog 9 #[.agg #[.int .i64 kd, .string tx, .int .i64 n, .slice ao l c], .int .i64 3] w fun e w' => e = .returned (.bool (sortB kd tx n 3)) ∧ Below w.heap.size w w' := by
  rw [show sortB kd tx n 3 = (kd == 3 && n.tmod 1000000 == 0) from rfl]
  cases t2 : (kd == 3) with
  | true =>
    cases t1 : (n.tmod 1000000 == 0) with
    | true =>
      go_enter Try.func9, Try.ntmps9
      go_wp2
      go_ret
      exact ⟨rfl, (Below.refl _ _).alloc (Nat.le_refl _) _⟩
    | false =>
      go_enter Try.func9, Try.ntmps9
      go_wp2
      go_ret
      exact ⟨rfl, (Below.refl _ _).alloc (Nat.le_refl _) _⟩
  | false =>
    cases t1 : (n.tmod 1000000 == 0) with
    | true =>
      go_enter Try.func9, Try.ntmps9
      go_wp2
      go_ret
      exact ⟨rfl, (Below.refl _ _).alloc (Nat.le_refl _) _⟩
    | false =>
      go_enter Try.func9, Try.ntmps9
      go_wp2
      go_ret
      exact ⟨rfl, (Below.refl _ _).alloc (Nat.le_refl _) _⟩

theorem sort9_4 (kd n : Int) (tx : ByteArray) (ao : Option Addr) (l c : Nat)  (w : World) (ht : tx.size ≤ maxLen) :
    Calls Try.prog 9 #[.agg #[.int .i64 kd, .string tx, .int .i64 n, .slice ao l c], .int .i64 4] w fun e w' => e = .returned (.bool (sortB kd tx n 4)) ∧ Below w.heap.size w w' := by
  rw [show sortB kd tx n 4 = (kd == 4) from rfl]
  cases t1 : (kd == 4) with
  | true =>
    go_enter Try.func9, Try.ntmps9
    go_wp2
    go_ret
    exact ⟨rfl, (Below.refl _ _).alloc (Nat.le_refl _) _⟩
  | false =>
    go_enter Try.func9, Try.ntmps9
    go_wp2
    go_ret
    exact ⟨rfl, (Below.refl _ _).alloc (Nat.le_refl _) _⟩

theorem sort9_5 (kd n : Int) (tx : ByteArray) (ao : Option Addr) (l c : Nat)  (w : World) (ht : tx.size ≤ maxLen) :
    Calls Try.prog 9 #[.agg #[.int .i64 kd, .string tx, .int .i64 n, .slice ao l c], .int .i64 5] w fun e w' => e = .returned (.bool (sortB kd tx n 5)) ∧ Below w.heap.size w w' := by
  rw [show sortB kd tx n 5 = (kd == 5) from rfl]
  cases t1 : (kd == 5) with
  | true =>
    go_enter Try.func9, Try.ntmps9
    go_wp2
    go_ret
    exact ⟨rfl, (Below.refl _ _).alloc (Nat.le_refl _) _⟩
  | false =>
    go_enter Try.func9, Try.ntmps9
    go_wp2
    go_ret
    exact ⟨rfl, (Below.refl _ _).alloc (Nat.le_refl _) _⟩

theorem sort9_6 (kd n : Int) (tx : ByteArray) (ao : Option Addr) (l c : Nat)  (w : World) (ht : tx.size ≤ maxLen) :
    Calls Try.prog 9 #[.agg #[.int .i64 kd, .string tx, .int .i64 n, .slice ao l c], .int .i64 6] w fun e w' => e = .returned (.bool (sortB kd tx n 6)) ∧ Below w.heap.size w w' := by
  rw [show sortB kd tx n 6 = (kd == 4 && decide (0 < (ivF tx).1)) from rfl]
  have IV := Lib.hid (fun w => iv20 tx w ht)
  have NO := Lib.hid (ivF_no tx)
  obtain ⟨v, hv⟩ : ∃ v, v = (ivF tx).1 := ⟨_, rfl⟩
  obtain ⟨b, hb⟩ : ∃ b, b = (ivF tx).2 := ⟨_, rfl⟩
  rw [← hv, ← hb] at IV NO
  rw [← hv]
  clear hv hb
  cases t1 : (kd == 4) with
  | true =>
    cases t2 : decide (0 < v) with
    | true =>
      cases b with
      | true =>
        go_enter Try.func9, Try.ntmps9
        go_wp2_with (go_at_call 20; refine (IV.out _).mono ?_; rintro e w1 ⟨rfl, b1⟩; obtain ⟨hc, hf⟩ := bcell b1)
        go_ret
        exact ⟨rfl, ((Below.refl _ _).alloc (Nat.le_refl _) _).trans (b1.mono (by simp))⟩
      | false =>
        have := NO.out rfl
        rw [this] at t2
        simp at t2
    | false =>
      cases b with
      | true =>
        go_enter Try.func9, Try.ntmps9
        go_wp2_with (go_at_call 20; refine (IV.out _).mono ?_; rintro e w1 ⟨rfl, b1⟩; obtain ⟨hc, hf⟩ := bcell b1)
        go_ret
        exact ⟨rfl, ((Below.refl _ _).alloc (Nat.le_refl _) _).trans (b1.mono (by simp))⟩
      | false =>
        go_enter Try.func9, Try.ntmps9
        go_wp2_with (go_at_call 20; refine (IV.out _).mono ?_; rintro e w1 ⟨rfl, b1⟩; obtain ⟨hc, hf⟩ := bcell b1)
        go_ret
        exact ⟨rfl, ((Below.refl _ _).alloc (Nat.le_refl _) _).trans (b1.mono (by simp))⟩
  | false =>
    go_enter Try.func9, Try.ntmps9
    go_wp2_with (go_at_call 20; refine (IV.out _).mono ?_; rintro e w1 ⟨rfl, b1⟩; obtain ⟨hc, hf⟩ := bcell b1)
    go_ret
    exact ⟨rfl, ((Below.refl _ _).alloc (Nat.le_refl _) _).trans (b1.mono (by simp))⟩

theorem sort9_7 (kd n : Int) (tx : ByteArray) (ao : Option Addr) (l c : Nat)  (w : World) (ht : tx.size ≤ maxLen) :
    Calls Try.prog 9 #[.agg #[.int .i64 kd, .string tx, .int .i64 n, .slice ao l c], .int .i64 7] w fun e w' => e = .returned (.bool (sortB kd tx n 7)) ∧ Below w.heap.size w w' := by
  rw [show sortB kd tx n 7 = (kd == 4 && kindF tx != 0) from rfl]
  have KI := Lib.hid (fun w => kind21 tx w)
  obtain ⟨v, hv⟩ : ∃ v, v = kindF tx := ⟨_, rfl⟩
  rw [← hv] at KI
  rw [← hv]
  clear hv
  cases t1 : (kd == 4) with
  | true =>
    cases t2 : (v != 0) with
    | true =>
      go_enter Try.func9, Try.ntmps9
      go_wp2_with (go_at_call 21; refine (KI.out _).mono ?_; rintro e w' ⟨rfl, rfl⟩)
      go_ret
      exact ⟨rfl, (Below.refl _ _).alloc (Nat.le_refl _) _⟩
    | false =>
      go_enter Try.func9, Try.ntmps9
      go_wp2_with (go_at_call 21; refine (KI.out _).mono ?_; rintro e w' ⟨rfl, rfl⟩)
      go_ret
      exact ⟨rfl, (Below.refl _ _).alloc (Nat.le_refl _) _⟩
  | false =>
    go_enter Try.func9, Try.ntmps9
    go_wp2_with fail
    go_ret
    exact ⟨rfl, (Below.refl _ _).alloc (Nat.le_refl _) _⟩

theorem sort9_x (kd n : Int) (tx : ByteArray) (ao : Option Addr) (l c : Nat) (srt : Int) (h1 : (srt == 1) = false) (h2 : (srt == 2) = false) (h3 : (srt == 3) = false) (h4 : (srt == 4) = false) (h5 : (srt == 5) = false) (h6 : (srt == 6) = false) (h7 : (srt == 7) = false) (w : World) :
    Calls Try.prog 9 #[.agg #[.int .i64 kd, .string tx, .int .i64 n, .slice ao l c], .int .i64 srt] w fun e w' => e = .returned (.bool false) ∧ Below w.heap.size w w' := by
  go_enter Try.func9, Try.ntmps9
  go_wp2
  go_ret
  exact ⟨rfl, (Below.refl _ _).alloc (Nat.le_refl _) _⟩
theorem sort9_any (kd n : Int) (tx : ByteArray) (ao : Option Addr) (l c : Nat) (srt : Int) (w : World) (ht : tx.size ≤ maxLen) :
    Calls Try.prog 9 #[.agg #[.int .i64 kd, .string tx, .int .i64 n, .slice ao l c], .int .i64 srt] w fun e w' => e = .returned (.bool (sortB kd tx n srt)) ∧ Below w.heap.size w w' := by
  by_cases h1 : srt = 1
  · subst h1; exact sort9_1 kd n tx ao l c w ht
  by_cases h2 : srt = 2
  · subst h2; exact sort9_2 kd n tx ao l c w ht
  by_cases h3 : srt = 3
  · subst h3; exact sort9_3 kd n tx ao l c w ht
  by_cases h4 : srt = 4
  · subst h4; exact sort9_4 kd n tx ao l c w ht
  by_cases h5 : srt = 5
  · subst h5; exact sort9_5 kd n tx ao l c w ht
  by_cases h6 : srt = 6
  · subst h6; exact sort9_6 kd n tx ao l c w ht
  by_cases h7 : srt = 7
  · subst h7; exact sort9_7 kd n tx ao l c w ht
  rw [show sortB kd tx n srt = false from by simp [sortB, h1, h2, h3, h4, h5, h6, h7]]
  exact sort9_x kd n tx ao l c srt (by simpa using h1) (by simpa using h2) (by simpa using h3) (by simpa using h4) (by simpa using h5) (by simpa using h6) (by simpa using h7) w
end Go.Proofs.Ytfldpaceebemhaa
