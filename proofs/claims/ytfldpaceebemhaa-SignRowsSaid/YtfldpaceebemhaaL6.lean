/-
  The walks of span.Interval and graticuleref16.Interval.
-/
import Derived.Test.YtfldpaceebemhaaL5
namespace Go.Proofs.Ytfldpaceebemhaa
open Go.RowKit

set_option maxHeartbeats 1000000 in
theorem iv18_nil (s : ByteArray) (w : World) (hs : s.size ≤ maxLen) (n : Nat) (hz : s.size = 0) (hn : DigN s n) :
    Calls Try.prog 18 #[.string s] w fun e w' => e = .returned (.tuple #[.int .i64 (ivC (1) s n).1, .bool (ivC (1) s n).2]) ∧ Below w.heap.size w w' := by
  have hts : s.size ≤ maxLen := hs
  have SG := Lib.hid (fun w => signed_nil s w hz)
  have DG := Lib.hid (fun w => (digits_any s w hts).mono (fun (e : Ending) (w' : World) (⟨m, he, hd, hw⟩) => (⟨by rw [he, hd.uniq hn], hw⟩ : e = Ending.returned (.int .i64 n) ∧ w = w')))
  have hz' : ¬ 0 < s.size := by omega
  have WH := Lib.hid (fun w => whole32 (s.extract 0 n) w (by rw [ByteArray.size_extract]; unfold maxLen at *; omega) hn.all)
  have UN := Lib.hid (fun w => unit33_any (s.extract n s.size) w)
  have hns := hn.1
  have hns' : (n : Int) ≤ (s.size : Int) := by omega
  have hn0 : (0 : Int) ≤ (n : Int) := by omega
  have HN := Lib.hid hn
  unfold maxLen at hs hts
  clear hn hz
  obtain ⟨ub1, ub2⟩ := unitF_bd (s.extract n s.size)
  unfold ivC
  obtain ⟨v, hv⟩ : ∃ v, v = (whP (s.extract 0 n)).1 := ⟨_, rfl⟩
  obtain ⟨vb1, vb2⟩ := whP_bd (s.extract 0 n)
  obtain ⟨b, hb⟩ : ∃ b, b = (whP (s.extract 0 n)).2 := ⟨_, rfl⟩
  obtain ⟨u, hu⟩ : ∃ u, u = unitF (s.extract n s.size) := ⟨_, rfl⟩
  rw [← hv, ← hb] at WH
  rw [← hv] at vb1 vb2
  rw [← hu] at UN ub1 ub2
  rw [← hv, ← hb, ← hu]
  clear hv hb hu
  have IV := Lib.hid (ivR_def (1) v b u)
  obtain ⟨r, hr⟩ : ∃ r, r = ivR (1) v b u := ⟨_, rfl⟩
  rw [← hr] at IV ⊢
  clear hr
  cases b with
  | false =>
    have IV2 := Lib.hid (show r = (0, false) from by rw [IV.out]; simp)
    go_enter Try.func18, Try.ntmps18
    go_wp2_with (go_at_call 30; refine (SG.out _).mono ?_; rintro e w' ⟨rfl, rfl⟩)
    go_wp2_with (first | (go_at_call 31; refine (DG.out _).mono ?_; rintro e w' ⟨rfl, rfl⟩) | (go_at_call 32; refine (WH.out _).mono ?_; rintro e w' ⟨rfl, rfl⟩))
    refine (UN.out _).mono ?_
    rintro e w1 ⟨rfl, b1⟩
    have B1 := Lib.hid b1
    clear b1
    go_wp2_with fail
    go_ret2
    rw [IV2.out]
    exact ⟨rfl, B1.out⟩
  | true =>
    by_cases hu0 : u = 0
    · have q1 : (u == 0) = true := by simpa using hu0
      have IV2 := Lib.hid (show r = (0, false) from by rw [IV.out, if_pos (.inr (.inl hu0))])
      clear hu0 IV
      go_enter Try.func18, Try.ntmps18
      go_wp2_with (go_at_call 30; refine (SG.out _).mono ?_; rintro e w' ⟨rfl, rfl⟩)
      go_wp2_with (first | (go_at_call 31; refine (DG.out _).mono ?_; rintro e w' ⟨rfl, rfl⟩) | (go_at_call 32; refine (WH.out _).mono ?_; rintro e w' ⟨rfl, rfl⟩))
      refine (UN.out _).mono ?_
      rintro e w1 ⟨rfl, b1⟩
      have B1 := Lib.hid b1
      clear b1
      go_wp2_with fail
      go_ret2
      rw [IV2.out]
      exact ⟨rfl, B1.out⟩
    · have q1 : (u == 0) = false := by simpa using hu0
      have q2 : 0 < u := by omega
      by_cases hb : 4294967295 / u < v
      · have IV2 := Lib.hid (show r = (0, false) from by rw [IV.out, if_pos (.inr (.inr hb))])
        have q3 : decide (4294967295 / u < v) = true := by simpa using hb
        clear hu0 IV
        go_enter Try.func18, Try.ntmps18
        go_wp2_with (go_at_call 30; refine (SG.out _).mono ?_; rintro e w' ⟨rfl, rfl⟩)
        go_wp2_with (first | (go_at_call 31; refine (DG.out _).mono ?_; rintro e w' ⟨rfl, rfl⟩) | (go_at_call 32; refine (WH.out _).mono ?_; rintro e w' ⟨rfl, rfl⟩))
        refine (UN.out _).mono ?_
        rintro e w1 ⟨rfl, b1⟩
        have B1 := Lib.hid b1
        clear b1
        go_wp2_with fail
        go_ret2
        rw [IV2.out]
        exact ⟨rfl, B1.out⟩
      · have IV2 := Lib.hid (show r = (wrap64 ((1) * v * u), true) from ivR_good hu0 hb vb1 vb2 IV.out)
        have q3 : decide (4294967295 / u < v) = false := by simpa using hb
        clear hu0 IV
        go_enter Try.func18, Try.ntmps18
        go_wp2_with (go_at_call 30; refine (SG.out _).mono ?_; rintro e w' ⟨rfl, rfl⟩)
        go_wp2_with (first | (go_at_call 31; refine (DG.out _).mono ?_; rintro e w' ⟨rfl, rfl⟩) | (go_at_call 32; refine (WH.out _).mono ?_; rintro e w' ⟨rfl, rfl⟩))
        refine (UN.out _).mono ?_
        rintro e w1 ⟨rfl, b1⟩
        have B1 := Lib.hid b1
        clear b1
        go_wp2_with fail
        go_ret2
        rw [IV2.out]
        exact ⟨by simp, B1.out⟩
set_option maxHeartbeats 1000000 in
theorem iv18_minus (s : ByteArray) (w : World) (hs : s.size ≤ maxLen) (n : Nat) (hz : 0 < s.size) (hc : by_ s 0 = 45) (hn : DigN (s.extract 1 s.size) n) :
    Calls Try.prog 18 #[.string s] w fun e w' => e = .returned (.tuple #[.int .i64 (ivC (-1) (s.extract 1 s.size) n).1, .bool (ivC (-1) (s.extract 1 s.size) n).2]) ∧ Below w.heap.size w w' := by
  obtain ⟨T, hT⟩ : ∃ T, T = s.extract 1 s.size := ⟨_, rfl⟩
  have HT := Lib.hid hT
  rw [← hT] at hn ⊢
  have hts : T.size ≤ maxLen := by rw [hT, ByteArray.size_extract]; unfold maxLen at *; omega
  clear hT
  have SG := Lib.hid (fun w => signed_any s w hz _ hc)
  rw [show (45 == 45 || 45 == 43) = true from by decide] at SG
  have DG := Lib.hid (fun w => (digits_any T w hts).mono (fun (e : Ending) (w' : World) (⟨m, he, hd, hw⟩) => (⟨by rw [he, hd.uniq hn], hw⟩ : e = Ending.returned (.int .i64 n) ∧ w = w')))
  have hc' : s[0].toNat = 45 := by rw [← hc, by_at s 0 hz]
  have hz1 : (1 : Int) ≤ (s.size : Int) := by omega
  clear hc
  have WH := Lib.hid (fun w => whole32 (T.extract 0 n) w (by rw [ByteArray.size_extract]; unfold maxLen at *; omega) hn.all)
  have UN := Lib.hid (fun w => unit33_any (T.extract n T.size) w)
  have hns := hn.1
  have hns' : (n : Int) ≤ (T.size : Int) := by omega
  have hn0 : (0 : Int) ≤ (n : Int) := by omega
  have HN := Lib.hid hn
  unfold maxLen at hs hts
  clear hn
  obtain ⟨ub1, ub2⟩ := unitF_bd (T.extract n T.size)
  unfold ivC
  obtain ⟨v, hv⟩ : ∃ v, v = (whP (T.extract 0 n)).1 := ⟨_, rfl⟩
  obtain ⟨vb1, vb2⟩ := whP_bd (T.extract 0 n)
  obtain ⟨b, hb⟩ : ∃ b, b = (whP (T.extract 0 n)).2 := ⟨_, rfl⟩
  obtain ⟨u, hu⟩ : ∃ u, u = unitF (T.extract n T.size) := ⟨_, rfl⟩
  rw [← hv, ← hb] at WH
  rw [← hv] at vb1 vb2
  rw [← hu] at UN ub1 ub2
  rw [← hv, ← hb, ← hu]
  clear hv hb hu
  have IV := Lib.hid (ivR_def (-1) v b u)
  obtain ⟨r, hr⟩ : ∃ r, r = ivR (-1) v b u := ⟨_, rfl⟩
  rw [← hr] at IV ⊢
  clear hr
  cases b with
  | false =>
    have IV2 := Lib.hid (show r = (0, false) from by rw [IV.out]; simp)
    go_enter Try.func18, Try.ntmps18
    go_wp2_with (go_at_call 30; refine (SG.out _).mono ?_; rintro e w' ⟨rfl, rfl⟩)
    rw [← HT.out]
    go_wp2_with (first | (go_at_call 31; refine (DG.out _).mono ?_; rintro e w' ⟨rfl, rfl⟩) | (go_at_call 32; refine (WH.out _).mono ?_; rintro e w' ⟨rfl, rfl⟩))
    refine (UN.out _).mono ?_
    rintro e w1 ⟨rfl, b1⟩
    have B1 := Lib.hid b1
    clear b1
    go_wp2_with fail
    go_ret2
    rw [IV2.out]
    exact ⟨rfl, B1.out⟩
  | true =>
    by_cases hu0 : u = 0
    · have q1 : (u == 0) = true := by simpa using hu0
      have IV2 := Lib.hid (show r = (0, false) from by rw [IV.out, if_pos (.inr (.inl hu0))])
      clear hu0 IV
      go_enter Try.func18, Try.ntmps18
      go_wp2_with (go_at_call 30; refine (SG.out _).mono ?_; rintro e w' ⟨rfl, rfl⟩)
      rw [← HT.out]
      go_wp2_with (first | (go_at_call 31; refine (DG.out _).mono ?_; rintro e w' ⟨rfl, rfl⟩) | (go_at_call 32; refine (WH.out _).mono ?_; rintro e w' ⟨rfl, rfl⟩))
      refine (UN.out _).mono ?_
      rintro e w1 ⟨rfl, b1⟩
      have B1 := Lib.hid b1
      clear b1
      go_wp2_with fail
      go_ret2
      rw [IV2.out]
      exact ⟨rfl, B1.out⟩
    · have q1 : (u == 0) = false := by simpa using hu0
      have q2 : 0 < u := by omega
      by_cases hb : 4294967295 / u < v
      · have IV2 := Lib.hid (show r = (0, false) from by rw [IV.out, if_pos (.inr (.inr hb))])
        have q3 : decide (4294967295 / u < v) = true := by simpa using hb
        clear hu0 IV
        go_enter Try.func18, Try.ntmps18
        go_wp2_with (go_at_call 30; refine (SG.out _).mono ?_; rintro e w' ⟨rfl, rfl⟩)
        rw [← HT.out]
        go_wp2_with (first | (go_at_call 31; refine (DG.out _).mono ?_; rintro e w' ⟨rfl, rfl⟩) | (go_at_call 32; refine (WH.out _).mono ?_; rintro e w' ⟨rfl, rfl⟩))
        refine (UN.out _).mono ?_
        rintro e w1 ⟨rfl, b1⟩
        have B1 := Lib.hid b1
        clear b1
        go_wp2_with fail
        go_ret2
        rw [IV2.out]
        exact ⟨rfl, B1.out⟩
      · have IV2 := Lib.hid (show r = (wrap64 ((-1) * v * u), true) from ivR_good hu0 hb vb1 vb2 IV.out)
        have q3 : decide (4294967295 / u < v) = false := by simpa using hb
        clear hu0 IV
        go_enter Try.func18, Try.ntmps18
        go_wp2_with (go_at_call 30; refine (SG.out _).mono ?_; rintro e w' ⟨rfl, rfl⟩)
        rw [← HT.out]
        go_wp2_with (first | (go_at_call 31; refine (DG.out _).mono ?_; rintro e w' ⟨rfl, rfl⟩) | (go_at_call 32; refine (WH.out _).mono ?_; rintro e w' ⟨rfl, rfl⟩))
        refine (UN.out _).mono ?_
        rintro e w1 ⟨rfl, b1⟩
        have B1 := Lib.hid b1
        clear b1
        go_wp2_with fail
        go_ret2
        rw [IV2.out]
        exact ⟨by simp, B1.out⟩
set_option maxHeartbeats 1000000 in
theorem iv18_plus (s : ByteArray) (w : World) (hs : s.size ≤ maxLen) (n : Nat) (hz : 0 < s.size) (hc : by_ s 0 = 43) (hn : DigN (s.extract 1 s.size) n) :
    Calls Try.prog 18 #[.string s] w fun e w' => e = .returned (.tuple #[.int .i64 (ivC (1) (s.extract 1 s.size) n).1, .bool (ivC (1) (s.extract 1 s.size) n).2]) ∧ Below w.heap.size w w' := by
  obtain ⟨T, hT⟩ : ∃ T, T = s.extract 1 s.size := ⟨_, rfl⟩
  have HT := Lib.hid hT
  rw [← hT] at hn ⊢
  have hts : T.size ≤ maxLen := by rw [hT, ByteArray.size_extract]; unfold maxLen at *; omega
  clear hT
  have SG := Lib.hid (fun w => signed_any s w hz _ hc)
  rw [show (43 == 45 || 43 == 43) = true from by decide] at SG
  have DG := Lib.hid (fun w => (digits_any T w hts).mono (fun (e : Ending) (w' : World) (⟨m, he, hd, hw⟩) => (⟨by rw [he, hd.uniq hn], hw⟩ : e = Ending.returned (.int .i64 n) ∧ w = w')))
  have hc' : s[0].toNat = 43 := by rw [← hc, by_at s 0 hz]
  have hz1 : (1 : Int) ≤ (s.size : Int) := by omega
  clear hc
  have WH := Lib.hid (fun w => whole32 (T.extract 0 n) w (by rw [ByteArray.size_extract]; unfold maxLen at *; omega) hn.all)
  have UN := Lib.hid (fun w => unit33_any (T.extract n T.size) w)
  have hns := hn.1
  have hns' : (n : Int) ≤ (T.size : Int) := by omega
  have hn0 : (0 : Int) ≤ (n : Int) := by omega
  have HN := Lib.hid hn
  unfold maxLen at hs hts
  clear hn
  obtain ⟨ub1, ub2⟩ := unitF_bd (T.extract n T.size)
  unfold ivC
  obtain ⟨v, hv⟩ : ∃ v, v = (whP (T.extract 0 n)).1 := ⟨_, rfl⟩
  obtain ⟨vb1, vb2⟩ := whP_bd (T.extract 0 n)
  obtain ⟨b, hb⟩ : ∃ b, b = (whP (T.extract 0 n)).2 := ⟨_, rfl⟩
  obtain ⟨u, hu⟩ : ∃ u, u = unitF (T.extract n T.size) := ⟨_, rfl⟩
  rw [← hv, ← hb] at WH
  rw [← hv] at vb1 vb2
  rw [← hu] at UN ub1 ub2
  rw [← hv, ← hb, ← hu]
  clear hv hb hu
  have IV := Lib.hid (ivR_def (1) v b u)
  obtain ⟨r, hr⟩ : ∃ r, r = ivR (1) v b u := ⟨_, rfl⟩
  rw [← hr] at IV ⊢
  clear hr
  cases b with
  | false =>
    have IV2 := Lib.hid (show r = (0, false) from by rw [IV.out]; simp)
    go_enter Try.func18, Try.ntmps18
    go_wp2_with (go_at_call 30; refine (SG.out _).mono ?_; rintro e w' ⟨rfl, rfl⟩)
    rw [← HT.out]
    go_wp2_with (first | (go_at_call 31; refine (DG.out _).mono ?_; rintro e w' ⟨rfl, rfl⟩) | (go_at_call 32; refine (WH.out _).mono ?_; rintro e w' ⟨rfl, rfl⟩))
    refine (UN.out _).mono ?_
    rintro e w1 ⟨rfl, b1⟩
    have B1 := Lib.hid b1
    clear b1
    go_wp2_with fail
    go_ret2
    rw [IV2.out]
    exact ⟨rfl, B1.out⟩
  | true =>
    by_cases hu0 : u = 0
    · have q1 : (u == 0) = true := by simpa using hu0
      have IV2 := Lib.hid (show r = (0, false) from by rw [IV.out, if_pos (.inr (.inl hu0))])
      clear hu0 IV
      go_enter Try.func18, Try.ntmps18
      go_wp2_with (go_at_call 30; refine (SG.out _).mono ?_; rintro e w' ⟨rfl, rfl⟩)
      rw [← HT.out]
      go_wp2_with (first | (go_at_call 31; refine (DG.out _).mono ?_; rintro e w' ⟨rfl, rfl⟩) | (go_at_call 32; refine (WH.out _).mono ?_; rintro e w' ⟨rfl, rfl⟩))
      refine (UN.out _).mono ?_
      rintro e w1 ⟨rfl, b1⟩
      have B1 := Lib.hid b1
      clear b1
      go_wp2_with fail
      go_ret2
      rw [IV2.out]
      exact ⟨rfl, B1.out⟩
    · have q1 : (u == 0) = false := by simpa using hu0
      have q2 : 0 < u := by omega
      by_cases hb : 4294967295 / u < v
      · have IV2 := Lib.hid (show r = (0, false) from by rw [IV.out, if_pos (.inr (.inr hb))])
        have q3 : decide (4294967295 / u < v) = true := by simpa using hb
        clear hu0 IV
        go_enter Try.func18, Try.ntmps18
        go_wp2_with (go_at_call 30; refine (SG.out _).mono ?_; rintro e w' ⟨rfl, rfl⟩)
        rw [← HT.out]
        go_wp2_with (first | (go_at_call 31; refine (DG.out _).mono ?_; rintro e w' ⟨rfl, rfl⟩) | (go_at_call 32; refine (WH.out _).mono ?_; rintro e w' ⟨rfl, rfl⟩))
        refine (UN.out _).mono ?_
        rintro e w1 ⟨rfl, b1⟩
        have B1 := Lib.hid b1
        clear b1
        go_wp2_with fail
        go_ret2
        rw [IV2.out]
        exact ⟨rfl, B1.out⟩
      · have IV2 := Lib.hid (show r = (wrap64 ((1) * v * u), true) from ivR_good hu0 hb vb1 vb2 IV.out)
        have q3 : decide (4294967295 / u < v) = false := by simpa using hb
        clear hu0 IV
        go_enter Try.func18, Try.ntmps18
        go_wp2_with (go_at_call 30; refine (SG.out _).mono ?_; rintro e w' ⟨rfl, rfl⟩)
        rw [← HT.out]
        go_wp2_with (first | (go_at_call 31; refine (DG.out _).mono ?_; rintro e w' ⟨rfl, rfl⟩) | (go_at_call 32; refine (WH.out _).mono ?_; rintro e w' ⟨rfl, rfl⟩))
        refine (UN.out _).mono ?_
        rintro e w1 ⟨rfl, b1⟩
        have B1 := Lib.hid b1
        clear b1
        go_wp2_with fail
        go_ret2
        rw [IV2.out]
        exact ⟨by simp, B1.out⟩
set_option maxHeartbeats 1000000 in
theorem iv18_other (s : ByteArray) (w : World) (hs : s.size ≤ maxLen) (n : Nat) (hz : 0 < s.size) (h45 : by_ s 0 ≠ 45) (h43 : by_ s 0 ≠ 43) (hn : DigN s n) :
    Calls Try.prog 18 #[.string s] w fun e w' => e = .returned (.tuple #[.int .i64 (ivC (1) s n).1, .bool (ivC (1) s n).2]) ∧ Below w.heap.size w w' := by
  have hts : s.size ≤ maxLen := hs
  have SG := Lib.hid (fun w => signed_any s w hz _ rfl)
  rw [show (by_ s 0 == 45 || by_ s 0 == 43) = false from by simp [h45, h43]] at SG
  have DG := Lib.hid (fun w => (digits_any s w hts).mono (fun (e : Ending) (w' : World) (⟨m, he, hd, hw⟩) => (⟨by rw [he, hd.uniq hn], hw⟩ : e = Ending.returned (.int .i64 n) ∧ w = w')))
  obtain ⟨c, hc⟩ : ∃ c, c = by_ s 0 := ⟨_, rfl⟩
  have hc' : s[0].toNat = c := by rw [hc, by_at s 0 hz]
  rw [← hc] at h45 h43
  have t1 : ((c : Int) == 45) = false := by simp; omega
  have t2 : ((c : Int) == 43) = false := by simp; omega
  clear hc h45 h43
  have WH := Lib.hid (fun w => whole32 (s.extract 0 n) w (by rw [ByteArray.size_extract]; unfold maxLen at *; omega) hn.all)
  have UN := Lib.hid (fun w => unit33_any (s.extract n s.size) w)
  have hns := hn.1
  have hns' : (n : Int) ≤ (s.size : Int) := by omega
  have hn0 : (0 : Int) ≤ (n : Int) := by omega
  have HN := Lib.hid hn
  unfold maxLen at hs hts
  clear hn
  obtain ⟨ub1, ub2⟩ := unitF_bd (s.extract n s.size)
  unfold ivC
  obtain ⟨v, hv⟩ : ∃ v, v = (whP (s.extract 0 n)).1 := ⟨_, rfl⟩
  obtain ⟨vb1, vb2⟩ := whP_bd (s.extract 0 n)
  obtain ⟨b, hb⟩ : ∃ b, b = (whP (s.extract 0 n)).2 := ⟨_, rfl⟩
  obtain ⟨u, hu⟩ : ∃ u, u = unitF (s.extract n s.size) := ⟨_, rfl⟩
  rw [← hv, ← hb] at WH
  rw [← hv] at vb1 vb2
  rw [← hu] at UN ub1 ub2
  rw [← hv, ← hb, ← hu]
  clear hv hb hu
  have IV := Lib.hid (ivR_def (1) v b u)
  obtain ⟨r, hr⟩ : ∃ r, r = ivR (1) v b u := ⟨_, rfl⟩
  rw [← hr] at IV ⊢
  clear hr
  cases b with
  | false =>
    have IV2 := Lib.hid (show r = (0, false) from by rw [IV.out]; simp)
    go_enter Try.func18, Try.ntmps18
    go_wp2_with (go_at_call 30; refine (SG.out _).mono ?_; rintro e w' ⟨rfl, rfl⟩)
    go_wp2_with (first | (go_at_call 31; refine (DG.out _).mono ?_; rintro e w' ⟨rfl, rfl⟩) | (go_at_call 32; refine (WH.out _).mono ?_; rintro e w' ⟨rfl, rfl⟩))
    refine (UN.out _).mono ?_
    rintro e w1 ⟨rfl, b1⟩
    have B1 := Lib.hid b1
    clear b1
    go_wp2_with fail
    go_ret2
    rw [IV2.out]
    exact ⟨rfl, B1.out⟩
  | true =>
    by_cases hu0 : u = 0
    · have q1 : (u == 0) = true := by simpa using hu0
      have IV2 := Lib.hid (show r = (0, false) from by rw [IV.out, if_pos (.inr (.inl hu0))])
      clear hu0 IV
      go_enter Try.func18, Try.ntmps18
      go_wp2_with (go_at_call 30; refine (SG.out _).mono ?_; rintro e w' ⟨rfl, rfl⟩)
      go_wp2_with (first | (go_at_call 31; refine (DG.out _).mono ?_; rintro e w' ⟨rfl, rfl⟩) | (go_at_call 32; refine (WH.out _).mono ?_; rintro e w' ⟨rfl, rfl⟩))
      refine (UN.out _).mono ?_
      rintro e w1 ⟨rfl, b1⟩
      have B1 := Lib.hid b1
      clear b1
      go_wp2_with fail
      go_ret2
      rw [IV2.out]
      exact ⟨rfl, B1.out⟩
    · have q1 : (u == 0) = false := by simpa using hu0
      have q2 : 0 < u := by omega
      by_cases hb : 4294967295 / u < v
      · have IV2 := Lib.hid (show r = (0, false) from by rw [IV.out, if_pos (.inr (.inr hb))])
        have q3 : decide (4294967295 / u < v) = true := by simpa using hb
        clear hu0 IV
        go_enter Try.func18, Try.ntmps18
        go_wp2_with (go_at_call 30; refine (SG.out _).mono ?_; rintro e w' ⟨rfl, rfl⟩)
        go_wp2_with (first | (go_at_call 31; refine (DG.out _).mono ?_; rintro e w' ⟨rfl, rfl⟩) | (go_at_call 32; refine (WH.out _).mono ?_; rintro e w' ⟨rfl, rfl⟩))
        refine (UN.out _).mono ?_
        rintro e w1 ⟨rfl, b1⟩
        have B1 := Lib.hid b1
        clear b1
        go_wp2_with fail
        go_ret2
        rw [IV2.out]
        exact ⟨rfl, B1.out⟩
      · have IV2 := Lib.hid (show r = (wrap64 ((1) * v * u), true) from ivR_good hu0 hb vb1 vb2 IV.out)
        have q3 : decide (4294967295 / u < v) = false := by simpa using hb
        clear hu0 IV
        go_enter Try.func18, Try.ntmps18
        go_wp2_with (go_at_call 30; refine (SG.out _).mono ?_; rintro e w' ⟨rfl, rfl⟩)
        go_wp2_with (first | (go_at_call 31; refine (DG.out _).mono ?_; rintro e w' ⟨rfl, rfl⟩) | (go_at_call 32; refine (WH.out _).mono ?_; rintro e w' ⟨rfl, rfl⟩))
        refine (UN.out _).mono ?_
        rintro e w1 ⟨rfl, b1⟩
        have B1 := Lib.hid b1
        clear b1
        go_wp2_with fail
        go_ret2
        rw [IV2.out]
        exact ⟨by simp, B1.out⟩
end Go.Proofs.Ytfldpaceebemhaa
