/-
  The walks of span.Interval and graticuleref16.Interval.
-/
import Derived.Test.YtfldpaceebemhaaL5
namespace Go.Proofs.Ytfldpaceebemhaa
open Go.RowKit

set_option maxHeartbeats 1000000 in
theorem iv20_nil (s : ByteArray) (w : World) (hs : s.size ≤ maxLen) (n : Nat) (hz : s.size = 0) (hn : DigN s n) :
    Calls Try.prog 20 #[.string s] w fun e w' => e = .returned (.tuple #[.int .i64 (ivC (1) s n).1, .bool (ivC (1) s n).2]) ∧ Below w.heap.size w w' := by
  have hts : s.size ≤ maxLen := hs
  have h0 : s.toList.isEmpty = true := by have := emptyB s; rw [show decide (0 < s.size) = false from by simp [hz]] at this; simpa using this
  have HZ := Lib.hid (show ¬ 0 < s.size by omega)
  have hz' := True.intro
  have WH := Lib.hid (fun w => whole36 (s.extract 0 n) w (by rw [ByteArray.size_extract]; unfold maxLen at *; omega) hn.all)
  have UN := Lib.hid (fun w => unit37_any (s.extract n s.size) w)
  have hns := hn.1
  have hns' : (n : Int) ≤ (s.size : Int) := by omega
  have hn0 : (0 : Int) ≤ (n : Int) := by omega
  have HN := Lib.hid hn
  unfold maxLen at hs hts
  clear hn hz
  obtain ⟨ub1, ub2⟩ := unitF_bd (s.extract n s.size)
  unfold ivC
  obtain ⟨v, hv⟩ : ∃ v, v = (whP (s.extract 0 n)).1 := ⟨_, rfl⟩
  obtain ⟨vb1, vb2⟩ := whP_bd (s.extract 0 n)
  obtain ⟨b, hb⟩ : ∃ b, b = (whP (s.extract 0 n)).2 := ⟨_, rfl⟩
  obtain ⟨u, hu⟩ : ∃ u, u = unitF (s.extract n s.size) := ⟨_, rfl⟩
  have HB := Lib.hid hb
  rw [← hv, ← hb] at WH
  rw [← hv] at vb1 vb2
  rw [← hu] at UN ub1 ub2
  rw [← hv, ← hb, ← hu]
  clear hv hb hu
  have IV := Lib.hid (ivR_def (1) v b u)
  obtain ⟨r, hr⟩ : ∃ r, r = ivR (1) v b u := ⟨_, rfl⟩
  rw [← hr] at IV ⊢
  clear hr
  have IZ : n = 0 → b = false := fun h => by
    rw [HB.out, h]; exact whP_nil s
  clear HB
  have ok1 : b = true → ((n : Int) == 0) = false := fun h => by
    have : n ≠ 0 := fun e => by rw [IZ e] at h; cases h
    simpa using this
  have IZ' := Lib.hid IZ
  clear IZ
  by_cases hbad : b = false ∨ u = 0 ∨ 4294967295 / u < v
  · have IV2 := Lib.hid (show r = (0, false) from by rw [IV.out, if_pos hbad])
    clear IV
    by_cases hn00 : n = 0
    · have p0 : ((n : Int) == 0) = true := by simpa using hn00
      clear ok1 hn00 hbad
      go_enter Try.func20, Try.ntmps20
      go_wp2_with fail
      go_loop [5] (fun i => ∃ k : Nat, k ≤ s.size ∧ i = .int .i64 k ∧ Hid (∀ j, j < k → digB (by_ s j) = true)) (fun i => s.size - (intOf i).toNat)
      case atStart => exact ⟨0, by omega, rfl, Lib.hid (fun j hj => absurd hj (by omega))⟩
      case round =>
        obtain ⟨k, hk, rfl, H⟩ := hrel
        have k0 : (0 : Int) ≤ (k : Int) := by omega
        by_cases hlt : k < s.size
        · exact absurd hlt (by have := HZ.out; omega)
        · have h1 : ¬ (k : Int) < (s.size : Int) := by omega
          have h2 : decide ((k : Int) < (s.size : Int)) = false := by simpa using h1
          have h3 : decide (k < s.size) = false := by simpa using hlt
          obtain rfl : k = n := DigN.uniq ⟨hk, H.out, fun h => absurd h hlt⟩ HN.out
          go_wp2_with (first | (go_at_call 36; refine (WH.out _).mono ?_; rintro e w' ⟨rfl, rfl⟩) | (go_at_call 37; refine (UN.out _).mono ?_; rintro e w' ⟨rfl, rfl⟩))
          go_ret2
          rw [IV2.out]
          exact ⟨rfl, Below.refl _ _⟩
    · have p0 : ((n : Int) == 0) = false := by simpa using hn00
      clear ok1 hn00
      by_cases hu0 : u = 0
      · have q1 : (u == 0) = true := by simpa using hu0
        clear hu0 hbad
        go_enter Try.func20, Try.ntmps20
        go_wp2_with fail
        go_loop [5] (fun i => ∃ k : Nat, k ≤ s.size ∧ i = .int .i64 k ∧ Hid (∀ j, j < k → digB (by_ s j) = true)) (fun i => s.size - (intOf i).toNat)
        case atStart => exact ⟨0, by omega, rfl, Lib.hid (fun j hj => absurd hj (by omega))⟩
        case round =>
          obtain ⟨k, hk, rfl, H⟩ := hrel
          have k0 : (0 : Int) ≤ (k : Int) := by omega
          by_cases hlt : k < s.size
          · exact absurd hlt (by have := HZ.out; omega)
          · have h1 : ¬ (k : Int) < (s.size : Int) := by omega
            have h2 : decide ((k : Int) < (s.size : Int)) = false := by simpa using h1
            have h3 : decide (k < s.size) = false := by simpa using hlt
            obtain rfl : k = n := DigN.uniq ⟨hk, H.out, fun h => absurd h hlt⟩ HN.out
            go_wp2_with (first | (go_at_call 36; refine (WH.out _).mono ?_; rintro e w' ⟨rfl, rfl⟩) | (go_at_call 37; refine (UN.out _).mono ?_; rintro e w' ⟨rfl, rfl⟩))
            go_ret2
            rw [IV2.out]
            exact ⟨rfl, Below.refl _ _⟩
      · have q1 : (u == 0) = false := by simpa using hu0
        have q2 : 0 < u := by omega
        cases b with
        | false =>
          clear hu0 hbad
          go_enter Try.func20, Try.ntmps20
          go_wp2_with fail
          go_loop [5] (fun i => ∃ k : Nat, k ≤ s.size ∧ i = .int .i64 k ∧ Hid (∀ j, j < k → digB (by_ s j) = true)) (fun i => s.size - (intOf i).toNat)
          case atStart => exact ⟨0, by omega, rfl, Lib.hid (fun j hj => absurd hj (by omega))⟩
          case round =>
            obtain ⟨k, hk, rfl, H⟩ := hrel
            have k0 : (0 : Int) ≤ (k : Int) := by omega
            by_cases hlt : k < s.size
            · exact absurd hlt (by have := HZ.out; omega)
            · have h1 : ¬ (k : Int) < (s.size : Int) := by omega
              have h2 : decide ((k : Int) < (s.size : Int)) = false := by simpa using h1
              have h3 : decide (k < s.size) = false := by simpa using hlt
              obtain rfl : k = n := DigN.uniq ⟨hk, H.out, fun h => absurd h hlt⟩ HN.out
              go_wp2_with (first | (go_at_call 36; refine (WH.out _).mono ?_; rintro e w' ⟨rfl, rfl⟩) | (go_at_call 37; refine (UN.out _).mono ?_; rintro e w' ⟨rfl, rfl⟩))
              go_ret2
              rw [IV2.out]
              exact ⟨rfl, Below.refl _ _⟩
        | true =>
          have q3' : 4294967295 / u < v := by
            rcases hbad with h | h | h
            · exact absurd h (by decide)
            · exact absurd h hu0
            · exact h
          have q3 : decide (4294967295 / u < v) = true := by simpa using q3'
          clear hu0 hbad
          go_enter Try.func20, Try.ntmps20
          go_wp2_with fail
          go_loop [5] (fun i => ∃ k : Nat, k ≤ s.size ∧ i = .int .i64 k ∧ Hid (∀ j, j < k → digB (by_ s j) = true)) (fun i => s.size - (intOf i).toNat)
          case atStart => exact ⟨0, by omega, rfl, Lib.hid (fun j hj => absurd hj (by omega))⟩
          case round =>
            obtain ⟨k, hk, rfl, H⟩ := hrel
            have k0 : (0 : Int) ≤ (k : Int) := by omega
            by_cases hlt : k < s.size
            · exact absurd hlt (by have := HZ.out; omega)
            · have h1 : ¬ (k : Int) < (s.size : Int) := by omega
              have h2 : decide ((k : Int) < (s.size : Int)) = false := by simpa using h1
              have h3 : decide (k < s.size) = false := by simpa using hlt
              obtain rfl : k = n := DigN.uniq ⟨hk, H.out, fun h => absurd h hlt⟩ HN.out
              go_wp2_with (first | (go_at_call 36; refine (WH.out _).mono ?_; rintro e w' ⟨rfl, rfl⟩) | (go_at_call 37; refine (UN.out _).mono ?_; rintro e w' ⟨rfl, rfl⟩))
              go_ret2
              rw [IV2.out]
              exact ⟨rfl, Below.refl _ _⟩
  · have IV2 := Lib.hid (show r = (wrap64 ((1) * v * u), true) from ivR_good' hbad vb1 vb2 IV.out)
    clear IV
    cases b with
    | false => exact absurd (.inl rfl) hbad
    | true =>
      have hu0 : ¬ u = 0 := fun h => hbad (.inr (.inl h))
      have q3' : ¬ 4294967295 / u < v := fun h => hbad (.inr (.inr h))
      have p0 := ok1 rfl
      have q1 : (u == 0) = false := by simpa using hu0
      have q2 : 0 < u := by omega
      have q3 : decide (4294967295 / u < v) = false := by simpa using q3'
      clear hu0 hbad ok1
      go_enter Try.func20, Try.ntmps20
      go_wp2_with fail
      go_loop [5] (fun i => ∃ k : Nat, k ≤ s.size ∧ i = .int .i64 k ∧ Hid (∀ j, j < k → digB (by_ s j) = true)) (fun i => s.size - (intOf i).toNat)
      case atStart => exact ⟨0, by omega, rfl, Lib.hid (fun j hj => absurd hj (by omega))⟩
      case round =>
        obtain ⟨k, hk, rfl, H⟩ := hrel
        have k0 : (0 : Int) ≤ (k : Int) := by omega
        by_cases hlt : k < s.size
        · exact absurd hlt (by have := HZ.out; omega)
        · have h1 : ¬ (k : Int) < (s.size : Int) := by omega
          have h2 : decide ((k : Int) < (s.size : Int)) = false := by simpa using h1
          have h3 : decide (k < s.size) = false := by simpa using hlt
          obtain rfl : k = n := DigN.uniq ⟨hk, H.out, fun h => absurd h hlt⟩ HN.out
          go_wp2_with (first | (go_at_call 36; refine (WH.out _).mono ?_; rintro e w' ⟨rfl, rfl⟩) | (go_at_call 37; refine (UN.out _).mono ?_; rintro e w' ⟨rfl, rfl⟩))
          go_ret2
          rw [IV2.out]
          exact ⟨by simp, Below.refl _ _⟩
set_option maxHeartbeats 1000000 in
theorem iv20_minus (s : ByteArray) (w : World) (hs : s.size ≤ maxLen) (n : Nat) (hz : 0 < s.size) (hc : by_ s 0 = 45) (hn : DigN (s.extract 1 s.size) n) :
    Calls Try.prog 20 #[.string s] w fun e w' => e = .returned (.tuple #[.int .i64 (ivC (-1) (s.extract 1 s.size) n).1, .bool (ivC (-1) (s.extract 1 s.size) n).2]) ∧ Below w.heap.size w w' := by
  obtain ⟨T, hT⟩ : ∃ T, T = s.extract 1 s.size := ⟨_, rfl⟩
  have HT := Lib.hid hT
  rw [← hT] at hn ⊢
  have hts : T.size ≤ maxLen := by rw [hT, ByteArray.size_extract]; unfold maxLen at *; omega
  clear hT
  have h0 : s.toList.isEmpty = false := by have := emptyB s; rw [show decide (0 < s.size) = true from by simp [hz]] at this; simpa using this
  have hc' : s[0].toNat = 45 := by rw [← hc, by_at s 0 hz]
  have hz1 : (1 : Int) ≤ (s.size : Int) := by omega
  clear hc
  have WH := Lib.hid (fun w => whole36 (T.extract 0 n) w (by rw [ByteArray.size_extract]; unfold maxLen at *; omega) hn.all)
  have UN := Lib.hid (fun w => unit37_any (T.extract n T.size) w)
  have hns := hn.1
  have hns' : (n : Int) ≤ (T.size : Int) := by omega
  have hn0 : (0 : Int) ≤ (n : Int) := by omega
  have HN := Lib.hid hn
  unfold maxLen at hs hts
  clear hn
  obtain ⟨ub1, ub2⟩ := unitF_bd (T.extract n T.size)
  unfold ivC
  obtain ⟨v, hv⟩ : ∃ v, v = (whP (T.extract 0 n)).1 := ⟨_, rfl⟩
  obtain ⟨vb1, vb2⟩ := whP_bd (T.extract 0 n)
  obtain ⟨b, hb⟩ : ∃ b, b = (whP (T.extract 0 n)).2 := ⟨_, rfl⟩
  obtain ⟨u, hu⟩ : ∃ u, u = unitF (T.extract n T.size) := ⟨_, rfl⟩
  have HB := Lib.hid hb
  rw [← hv, ← hb] at WH
  rw [← hv] at vb1 vb2
  rw [← hu] at UN ub1 ub2
  rw [← hv, ← hb, ← hu]
  clear hv hb hu
  have IV := Lib.hid (ivR_def (-1) v b u)
  obtain ⟨r, hr⟩ : ∃ r, r = ivR (-1) v b u := ⟨_, rfl⟩
  rw [← hr] at IV ⊢
  clear hr
  have IZ : n = 0 → b = false := fun h => by
    rw [HB.out, h]; exact whP_nil T
  clear HB
  have ok1 : b = true → ((n : Int) == 0) = false := fun h => by
    have : n ≠ 0 := fun e => by rw [IZ e] at h; cases h
    simpa using this
  have IZ' := Lib.hid IZ
  clear IZ
  by_cases hbad : b = false ∨ u = 0 ∨ 4294967295 / u < v
  · have IV2 := Lib.hid (show r = (0, false) from by rw [IV.out, if_pos hbad])
    clear IV
    by_cases hn00 : n = 0
    · have p0 : ((n : Int) == 0) = true := by simpa using hn00
      clear ok1 hn00 hbad
      go_enter Try.func20, Try.ntmps20
      go_wp2_with fail
      rw [← HT.out]
      go_loop [5] (fun i => ∃ k : Nat, k ≤ T.size ∧ i = .int .i64 k ∧ Hid (∀ j, j < k → digB (by_ T j) = true)) (fun i => T.size - (intOf i).toNat)
      case atStart => exact ⟨0, by omega, rfl, Lib.hid (fun j hj => absurd hj (by omega))⟩
      case round =>
        obtain ⟨k, hk, rfl, H⟩ := hrel
        have k0 : (0 : Int) ≤ (k : Int) := by omega
        by_cases hlt : k < T.size
        · have h1 : (k : Int) < (T.size : Int) := by omega
          have h2 : decide ((k : Int) < (T.size : Int)) = true := by simpa using h1
          obtain ⟨c5, hc⟩ : ∃ c, c = T[k].toNat := ⟨_, rfl⟩
          have hc5 : by_ T k = c5 := by rw [hc, by_at T k hlt]
          have HC := Lib.hid hc5
          have D := Lib.hid (fun w => dig35 c5 w)
          rw [hc] at D
          cases hd : digB c5 with
          | true =>
            have HD := Lib.hid hd
            rw [hc] at hd
            clear hc hc5
            go_wp2_with (go_at_call 35; refine (D.out _).mono ?_; rintro e w' ⟨rfl, rfl⟩)
            go_round
            case rel => exact ⟨k + 1, by omega, by go_num, Lib.hid (fun j hj => by
              by_cases e : j = k
              · rw [e, HC.out]; exact HD.out
              · exact H.out j (by omega))⟩
            case measure => simp [intOf]; omega
          | false =>
            have HD := Lib.hid hd
            rw [hc] at hd
            obtain rfl : k = n := DigN.uniq ⟨hk, H.out, fun _ => by rw [HC.out]; exact HD.out⟩ HN.out
            clear hc hc5
            go_wp2_with (first | (go_at_call 35; refine (D.out _).mono ?_; rintro e w' ⟨rfl, rfl⟩) | (go_at_call 36; refine (WH.out _).mono ?_; rintro e w' ⟨rfl, rfl⟩) | (go_at_call 37; refine (UN.out _).mono ?_; rintro e w' ⟨rfl, rfl⟩))
            go_ret2
            rw [IV2.out]
            exact ⟨rfl, Below.refl _ _⟩
        · have h1 : ¬ (k : Int) < (T.size : Int) := by omega
          have h2 : decide ((k : Int) < (T.size : Int)) = false := by simpa using h1
          have h3 : decide (k < T.size) = false := by simpa using hlt
          obtain rfl : k = n := DigN.uniq ⟨hk, H.out, fun h => absurd h hlt⟩ HN.out
          go_wp2_with (first | (go_at_call 36; refine (WH.out _).mono ?_; rintro e w' ⟨rfl, rfl⟩) | (go_at_call 37; refine (UN.out _).mono ?_; rintro e w' ⟨rfl, rfl⟩))
          go_ret2
          rw [IV2.out]
          exact ⟨rfl, Below.refl _ _⟩
    · have p0 : ((n : Int) == 0) = false := by simpa using hn00
      clear ok1 hn00
      by_cases hu0 : u = 0
      · have q1 : (u == 0) = true := by simpa using hu0
        clear hu0 hbad
        go_enter Try.func20, Try.ntmps20
        go_wp2_with fail
        rw [← HT.out]
        go_loop [5] (fun i => ∃ k : Nat, k ≤ T.size ∧ i = .int .i64 k ∧ Hid (∀ j, j < k → digB (by_ T j) = true)) (fun i => T.size - (intOf i).toNat)
        case atStart => exact ⟨0, by omega, rfl, Lib.hid (fun j hj => absurd hj (by omega))⟩
        case round =>
          obtain ⟨k, hk, rfl, H⟩ := hrel
          have k0 : (0 : Int) ≤ (k : Int) := by omega
          by_cases hlt : k < T.size
          · have h1 : (k : Int) < (T.size : Int) := by omega
            have h2 : decide ((k : Int) < (T.size : Int)) = true := by simpa using h1
            obtain ⟨c5, hc⟩ : ∃ c, c = T[k].toNat := ⟨_, rfl⟩
            have hc5 : by_ T k = c5 := by rw [hc, by_at T k hlt]
            have HC := Lib.hid hc5
            have D := Lib.hid (fun w => dig35 c5 w)
            rw [hc] at D
            cases hd : digB c5 with
            | true =>
              have HD := Lib.hid hd
              rw [hc] at hd
              clear hc hc5
              go_wp2_with (go_at_call 35; refine (D.out _).mono ?_; rintro e w' ⟨rfl, rfl⟩)
              go_round
              case rel => exact ⟨k + 1, by omega, by go_num, Lib.hid (fun j hj => by
                by_cases e : j = k
                · rw [e, HC.out]; exact HD.out
                · exact H.out j (by omega))⟩
              case measure => simp [intOf]; omega
            | false =>
              have HD := Lib.hid hd
              rw [hc] at hd
              obtain rfl : k = n := DigN.uniq ⟨hk, H.out, fun _ => by rw [HC.out]; exact HD.out⟩ HN.out
              clear hc hc5
              go_wp2_with (first | (go_at_call 35; refine (D.out _).mono ?_; rintro e w' ⟨rfl, rfl⟩) | (go_at_call 36; refine (WH.out _).mono ?_; rintro e w' ⟨rfl, rfl⟩) | (go_at_call 37; refine (UN.out _).mono ?_; rintro e w' ⟨rfl, rfl⟩))
              go_ret2
              rw [IV2.out]
              exact ⟨rfl, Below.refl _ _⟩
          · have h1 : ¬ (k : Int) < (T.size : Int) := by omega
            have h2 : decide ((k : Int) < (T.size : Int)) = false := by simpa using h1
            have h3 : decide (k < T.size) = false := by simpa using hlt
            obtain rfl : k = n := DigN.uniq ⟨hk, H.out, fun h => absurd h hlt⟩ HN.out
            go_wp2_with (first | (go_at_call 36; refine (WH.out _).mono ?_; rintro e w' ⟨rfl, rfl⟩) | (go_at_call 37; refine (UN.out _).mono ?_; rintro e w' ⟨rfl, rfl⟩))
            go_ret2
            rw [IV2.out]
            exact ⟨rfl, Below.refl _ _⟩
      · have q1 : (u == 0) = false := by simpa using hu0
        have q2 : 0 < u := by omega
        cases b with
        | false =>
          clear hu0 hbad
          go_enter Try.func20, Try.ntmps20
          go_wp2_with fail
          rw [← HT.out]
          go_loop [5] (fun i => ∃ k : Nat, k ≤ T.size ∧ i = .int .i64 k ∧ Hid (∀ j, j < k → digB (by_ T j) = true)) (fun i => T.size - (intOf i).toNat)
          case atStart => exact ⟨0, by omega, rfl, Lib.hid (fun j hj => absurd hj (by omega))⟩
          case round =>
            obtain ⟨k, hk, rfl, H⟩ := hrel
            have k0 : (0 : Int) ≤ (k : Int) := by omega
            by_cases hlt : k < T.size
            · have h1 : (k : Int) < (T.size : Int) := by omega
              have h2 : decide ((k : Int) < (T.size : Int)) = true := by simpa using h1
              obtain ⟨c5, hc⟩ : ∃ c, c = T[k].toNat := ⟨_, rfl⟩
              have hc5 : by_ T k = c5 := by rw [hc, by_at T k hlt]
              have HC := Lib.hid hc5
              have D := Lib.hid (fun w => dig35 c5 w)
              rw [hc] at D
              cases hd : digB c5 with
              | true =>
                have HD := Lib.hid hd
                rw [hc] at hd
                clear hc hc5
                go_wp2_with (go_at_call 35; refine (D.out _).mono ?_; rintro e w' ⟨rfl, rfl⟩)
                go_round
                case rel => exact ⟨k + 1, by omega, by go_num, Lib.hid (fun j hj => by
                  by_cases e : j = k
                  · rw [e, HC.out]; exact HD.out
                  · exact H.out j (by omega))⟩
                case measure => simp [intOf]; omega
              | false =>
                have HD := Lib.hid hd
                rw [hc] at hd
                obtain rfl : k = n := DigN.uniq ⟨hk, H.out, fun _ => by rw [HC.out]; exact HD.out⟩ HN.out
                clear hc hc5
                go_wp2_with (first | (go_at_call 35; refine (D.out _).mono ?_; rintro e w' ⟨rfl, rfl⟩) | (go_at_call 36; refine (WH.out _).mono ?_; rintro e w' ⟨rfl, rfl⟩) | (go_at_call 37; refine (UN.out _).mono ?_; rintro e w' ⟨rfl, rfl⟩))
                go_ret2
                rw [IV2.out]
                exact ⟨rfl, Below.refl _ _⟩
            · have h1 : ¬ (k : Int) < (T.size : Int) := by omega
              have h2 : decide ((k : Int) < (T.size : Int)) = false := by simpa using h1
              have h3 : decide (k < T.size) = false := by simpa using hlt
              obtain rfl : k = n := DigN.uniq ⟨hk, H.out, fun h => absurd h hlt⟩ HN.out
              go_wp2_with (first | (go_at_call 36; refine (WH.out _).mono ?_; rintro e w' ⟨rfl, rfl⟩) | (go_at_call 37; refine (UN.out _).mono ?_; rintro e w' ⟨rfl, rfl⟩))
              go_ret2
              rw [IV2.out]
              exact ⟨rfl, Below.refl _ _⟩
        | true =>
          have q3' : 4294967295 / u < v := by
            rcases hbad with h | h | h
            · exact absurd h (by decide)
            · exact absurd h hu0
            · exact h
          have q3 : decide (4294967295 / u < v) = true := by simpa using q3'
          clear hu0 hbad
          go_enter Try.func20, Try.ntmps20
          go_wp2_with fail
          rw [← HT.out]
          go_loop [5] (fun i => ∃ k : Nat, k ≤ T.size ∧ i = .int .i64 k ∧ Hid (∀ j, j < k → digB (by_ T j) = true)) (fun i => T.size - (intOf i).toNat)
          case atStart => exact ⟨0, by omega, rfl, Lib.hid (fun j hj => absurd hj (by omega))⟩
          case round =>
            obtain ⟨k, hk, rfl, H⟩ := hrel
            have k0 : (0 : Int) ≤ (k : Int) := by omega
            by_cases hlt : k < T.size
            · have h1 : (k : Int) < (T.size : Int) := by omega
              have h2 : decide ((k : Int) < (T.size : Int)) = true := by simpa using h1
              obtain ⟨c5, hc⟩ : ∃ c, c = T[k].toNat := ⟨_, rfl⟩
              have hc5 : by_ T k = c5 := by rw [hc, by_at T k hlt]
              have HC := Lib.hid hc5
              have D := Lib.hid (fun w => dig35 c5 w)
              rw [hc] at D
              cases hd : digB c5 with
              | true =>
                have HD := Lib.hid hd
                rw [hc] at hd
                clear hc hc5
                go_wp2_with (go_at_call 35; refine (D.out _).mono ?_; rintro e w' ⟨rfl, rfl⟩)
                go_round
                case rel => exact ⟨k + 1, by omega, by go_num, Lib.hid (fun j hj => by
                  by_cases e : j = k
                  · rw [e, HC.out]; exact HD.out
                  · exact H.out j (by omega))⟩
                case measure => simp [intOf]; omega
              | false =>
                have HD := Lib.hid hd
                rw [hc] at hd
                obtain rfl : k = n := DigN.uniq ⟨hk, H.out, fun _ => by rw [HC.out]; exact HD.out⟩ HN.out
                clear hc hc5
                go_wp2_with (first | (go_at_call 35; refine (D.out _).mono ?_; rintro e w' ⟨rfl, rfl⟩) | (go_at_call 36; refine (WH.out _).mono ?_; rintro e w' ⟨rfl, rfl⟩) | (go_at_call 37; refine (UN.out _).mono ?_; rintro e w' ⟨rfl, rfl⟩))
                go_ret2
                rw [IV2.out]
                exact ⟨rfl, Below.refl _ _⟩
            · have h1 : ¬ (k : Int) < (T.size : Int) := by omega
              have h2 : decide ((k : Int) < (T.size : Int)) = false := by simpa using h1
              have h3 : decide (k < T.size) = false := by simpa using hlt
              obtain rfl : k = n := DigN.uniq ⟨hk, H.out, fun h => absurd h hlt⟩ HN.out
              go_wp2_with (first | (go_at_call 36; refine (WH.out _).mono ?_; rintro e w' ⟨rfl, rfl⟩) | (go_at_call 37; refine (UN.out _).mono ?_; rintro e w' ⟨rfl, rfl⟩))
              go_ret2
              rw [IV2.out]
              exact ⟨rfl, Below.refl _ _⟩
  · have IV2 := Lib.hid (show r = (wrap64 ((-1) * v * u), true) from ivR_good' hbad vb1 vb2 IV.out)
    clear IV
    cases b with
    | false => exact absurd (.inl rfl) hbad
    | true =>
      have hu0 : ¬ u = 0 := fun h => hbad (.inr (.inl h))
      have q3' : ¬ 4294967295 / u < v := fun h => hbad (.inr (.inr h))
      have p0 := ok1 rfl
      have q1 : (u == 0) = false := by simpa using hu0
      have q2 : 0 < u := by omega
      have q3 : decide (4294967295 / u < v) = false := by simpa using q3'
      clear hu0 hbad ok1
      go_enter Try.func20, Try.ntmps20
      go_wp2_with fail
      rw [← HT.out]
      go_loop [5] (fun i => ∃ k : Nat, k ≤ T.size ∧ i = .int .i64 k ∧ Hid (∀ j, j < k → digB (by_ T j) = true)) (fun i => T.size - (intOf i).toNat)
      case atStart => exact ⟨0, by omega, rfl, Lib.hid (fun j hj => absurd hj (by omega))⟩
      case round =>
        obtain ⟨k, hk, rfl, H⟩ := hrel
        have k0 : (0 : Int) ≤ (k : Int) := by omega
        by_cases hlt : k < T.size
        · have h1 : (k : Int) < (T.size : Int) := by omega
          have h2 : decide ((k : Int) < (T.size : Int)) = true := by simpa using h1
          obtain ⟨c5, hc⟩ : ∃ c, c = T[k].toNat := ⟨_, rfl⟩
          have hc5 : by_ T k = c5 := by rw [hc, by_at T k hlt]
          have HC := Lib.hid hc5
          have D := Lib.hid (fun w => dig35 c5 w)
          rw [hc] at D
          cases hd : digB c5 with
          | true =>
            have HD := Lib.hid hd
            rw [hc] at hd
            clear hc hc5
            go_wp2_with (go_at_call 35; refine (D.out _).mono ?_; rintro e w' ⟨rfl, rfl⟩)
            go_round
            case rel => exact ⟨k + 1, by omega, by go_num, Lib.hid (fun j hj => by
              by_cases e : j = k
              · rw [e, HC.out]; exact HD.out
              · exact H.out j (by omega))⟩
            case measure => simp [intOf]; omega
          | false =>
            have HD := Lib.hid hd
            rw [hc] at hd
            obtain rfl : k = n := DigN.uniq ⟨hk, H.out, fun _ => by rw [HC.out]; exact HD.out⟩ HN.out
            clear hc hc5
            go_wp2_with (first | (go_at_call 35; refine (D.out _).mono ?_; rintro e w' ⟨rfl, rfl⟩) | (go_at_call 36; refine (WH.out _).mono ?_; rintro e w' ⟨rfl, rfl⟩) | (go_at_call 37; refine (UN.out _).mono ?_; rintro e w' ⟨rfl, rfl⟩))
            go_ret2
            rw [IV2.out]
            exact ⟨by simp, Below.refl _ _⟩
        · have h1 : ¬ (k : Int) < (T.size : Int) := by omega
          have h2 : decide ((k : Int) < (T.size : Int)) = false := by simpa using h1
          have h3 : decide (k < T.size) = false := by simpa using hlt
          obtain rfl : k = n := DigN.uniq ⟨hk, H.out, fun h => absurd h hlt⟩ HN.out
          go_wp2_with (first | (go_at_call 36; refine (WH.out _).mono ?_; rintro e w' ⟨rfl, rfl⟩) | (go_at_call 37; refine (UN.out _).mono ?_; rintro e w' ⟨rfl, rfl⟩))
          go_ret2
          rw [IV2.out]
          exact ⟨by simp, Below.refl _ _⟩
set_option maxHeartbeats 1000000 in
theorem iv20_plus (s : ByteArray) (w : World) (hs : s.size ≤ maxLen) (n : Nat) (hz : 0 < s.size) (hc : by_ s 0 = 43) (hn : DigN (s.extract 1 s.size) n) :
    Calls Try.prog 20 #[.string s] w fun e w' => e = .returned (.tuple #[.int .i64 (ivC (1) (s.extract 1 s.size) n).1, .bool (ivC (1) (s.extract 1 s.size) n).2]) ∧ Below w.heap.size w w' := by
  obtain ⟨T, hT⟩ : ∃ T, T = s.extract 1 s.size := ⟨_, rfl⟩
  have HT := Lib.hid hT
  rw [← hT] at hn ⊢
  have hts : T.size ≤ maxLen := by rw [hT, ByteArray.size_extract]; unfold maxLen at *; omega
  clear hT
  have h0 : s.toList.isEmpty = false := by have := emptyB s; rw [show decide (0 < s.size) = true from by simp [hz]] at this; simpa using this
  have hc' : s[0].toNat = 43 := by rw [← hc, by_at s 0 hz]
  have hz1 : (1 : Int) ≤ (s.size : Int) := by omega
  clear hc
  have WH := Lib.hid (fun w => whole36 (T.extract 0 n) w (by rw [ByteArray.size_extract]; unfold maxLen at *; omega) hn.all)
  have UN := Lib.hid (fun w => unit37_any (T.extract n T.size) w)
  have hns := hn.1
  have hns' : (n : Int) ≤ (T.size : Int) := by omega
  have hn0 : (0 : Int) ≤ (n : Int) := by omega
  have HN := Lib.hid hn
  unfold maxLen at hs hts
  clear hn
  obtain ⟨ub1, ub2⟩ := unitF_bd (T.extract n T.size)
  unfold ivC
  obtain ⟨v, hv⟩ : ∃ v, v = (whP (T.extract 0 n)).1 := ⟨_, rfl⟩
  obtain ⟨vb1, vb2⟩ := whP_bd (T.extract 0 n)
  obtain ⟨b, hb⟩ : ∃ b, b = (whP (T.extract 0 n)).2 := ⟨_, rfl⟩
  obtain ⟨u, hu⟩ : ∃ u, u = unitF (T.extract n T.size) := ⟨_, rfl⟩
  have HB := Lib.hid hb
  rw [← hv, ← hb] at WH
  rw [← hv] at vb1 vb2
  rw [← hu] at UN ub1 ub2
  rw [← hv, ← hb, ← hu]
  clear hv hb hu
  have IV := Lib.hid (ivR_def (1) v b u)
  obtain ⟨r, hr⟩ : ∃ r, r = ivR (1) v b u := ⟨_, rfl⟩
  rw [← hr] at IV ⊢
  clear hr
  have IZ : n = 0 → b = false := fun h => by
    rw [HB.out, h]; exact whP_nil T
  clear HB
  have ok1 : b = true → ((n : Int) == 0) = false := fun h => by
    have : n ≠ 0 := fun e => by rw [IZ e] at h; cases h
    simpa using this
  have IZ' := Lib.hid IZ
  clear IZ
  by_cases hbad : b = false ∨ u = 0 ∨ 4294967295 / u < v
  · have IV2 := Lib.hid (show r = (0, false) from by rw [IV.out, if_pos hbad])
    clear IV
    by_cases hn00 : n = 0
    · have p0 : ((n : Int) == 0) = true := by simpa using hn00
      clear ok1 hn00 hbad
      go_enter Try.func20, Try.ntmps20
      go_wp2_with fail
      rw [← HT.out]
      go_loop [5] (fun i => ∃ k : Nat, k ≤ T.size ∧ i = .int .i64 k ∧ Hid (∀ j, j < k → digB (by_ T j) = true)) (fun i => T.size - (intOf i).toNat)
      case atStart => exact ⟨0, by omega, rfl, Lib.hid (fun j hj => absurd hj (by omega))⟩
      case round =>
        obtain ⟨k, hk, rfl, H⟩ := hrel
        have k0 : (0 : Int) ≤ (k : Int) := by omega
        by_cases hlt : k < T.size
        · have h1 : (k : Int) < (T.size : Int) := by omega
          have h2 : decide ((k : Int) < (T.size : Int)) = true := by simpa using h1
          obtain ⟨c5, hc⟩ : ∃ c, c = T[k].toNat := ⟨_, rfl⟩
          have hc5 : by_ T k = c5 := by rw [hc, by_at T k hlt]
          have HC := Lib.hid hc5
          have D := Lib.hid (fun w => dig35 c5 w)
          rw [hc] at D
          cases hd : digB c5 with
          | true =>
            have HD := Lib.hid hd
            rw [hc] at hd
            clear hc hc5
            go_wp2_with (go_at_call 35; refine (D.out _).mono ?_; rintro e w' ⟨rfl, rfl⟩)
            go_round
            case rel => exact ⟨k + 1, by omega, by go_num, Lib.hid (fun j hj => by
              by_cases e : j = k
              · rw [e, HC.out]; exact HD.out
              · exact H.out j (by omega))⟩
            case measure => simp [intOf]; omega
          | false =>
            have HD := Lib.hid hd
            rw [hc] at hd
            obtain rfl : k = n := DigN.uniq ⟨hk, H.out, fun _ => by rw [HC.out]; exact HD.out⟩ HN.out
            clear hc hc5
            go_wp2_with (first | (go_at_call 35; refine (D.out _).mono ?_; rintro e w' ⟨rfl, rfl⟩) | (go_at_call 36; refine (WH.out _).mono ?_; rintro e w' ⟨rfl, rfl⟩) | (go_at_call 37; refine (UN.out _).mono ?_; rintro e w' ⟨rfl, rfl⟩))
            go_ret2
            rw [IV2.out]
            exact ⟨rfl, Below.refl _ _⟩
        · have h1 : ¬ (k : Int) < (T.size : Int) := by omega
          have h2 : decide ((k : Int) < (T.size : Int)) = false := by simpa using h1
          have h3 : decide (k < T.size) = false := by simpa using hlt
          obtain rfl : k = n := DigN.uniq ⟨hk, H.out, fun h => absurd h hlt⟩ HN.out
          go_wp2_with (first | (go_at_call 36; refine (WH.out _).mono ?_; rintro e w' ⟨rfl, rfl⟩) | (go_at_call 37; refine (UN.out _).mono ?_; rintro e w' ⟨rfl, rfl⟩))
          go_ret2
          rw [IV2.out]
          exact ⟨rfl, Below.refl _ _⟩
    · have p0 : ((n : Int) == 0) = false := by simpa using hn00
      clear ok1 hn00
      by_cases hu0 : u = 0
      · have q1 : (u == 0) = true := by simpa using hu0
        clear hu0 hbad
        go_enter Try.func20, Try.ntmps20
        go_wp2_with fail
        rw [← HT.out]
        go_loop [5] (fun i => ∃ k : Nat, k ≤ T.size ∧ i = .int .i64 k ∧ Hid (∀ j, j < k → digB (by_ T j) = true)) (fun i => T.size - (intOf i).toNat)
        case atStart => exact ⟨0, by omega, rfl, Lib.hid (fun j hj => absurd hj (by omega))⟩
        case round =>
          obtain ⟨k, hk, rfl, H⟩ := hrel
          have k0 : (0 : Int) ≤ (k : Int) := by omega
          by_cases hlt : k < T.size
          · have h1 : (k : Int) < (T.size : Int) := by omega
            have h2 : decide ((k : Int) < (T.size : Int)) = true := by simpa using h1
            obtain ⟨c5, hc⟩ : ∃ c, c = T[k].toNat := ⟨_, rfl⟩
            have hc5 : by_ T k = c5 := by rw [hc, by_at T k hlt]
            have HC := Lib.hid hc5
            have D := Lib.hid (fun w => dig35 c5 w)
            rw [hc] at D
            cases hd : digB c5 with
            | true =>
              have HD := Lib.hid hd
              rw [hc] at hd
              clear hc hc5
              go_wp2_with (go_at_call 35; refine (D.out _).mono ?_; rintro e w' ⟨rfl, rfl⟩)
              go_round
              case rel => exact ⟨k + 1, by omega, by go_num, Lib.hid (fun j hj => by
                by_cases e : j = k
                · rw [e, HC.out]; exact HD.out
                · exact H.out j (by omega))⟩
              case measure => simp [intOf]; omega
            | false =>
              have HD := Lib.hid hd
              rw [hc] at hd
              obtain rfl : k = n := DigN.uniq ⟨hk, H.out, fun _ => by rw [HC.out]; exact HD.out⟩ HN.out
              clear hc hc5
              go_wp2_with (first | (go_at_call 35; refine (D.out _).mono ?_; rintro e w' ⟨rfl, rfl⟩) | (go_at_call 36; refine (WH.out _).mono ?_; rintro e w' ⟨rfl, rfl⟩) | (go_at_call 37; refine (UN.out _).mono ?_; rintro e w' ⟨rfl, rfl⟩))
              go_ret2
              rw [IV2.out]
              exact ⟨rfl, Below.refl _ _⟩
          · have h1 : ¬ (k : Int) < (T.size : Int) := by omega
            have h2 : decide ((k : Int) < (T.size : Int)) = false := by simpa using h1
            have h3 : decide (k < T.size) = false := by simpa using hlt
            obtain rfl : k = n := DigN.uniq ⟨hk, H.out, fun h => absurd h hlt⟩ HN.out
            go_wp2_with (first | (go_at_call 36; refine (WH.out _).mono ?_; rintro e w' ⟨rfl, rfl⟩) | (go_at_call 37; refine (UN.out _).mono ?_; rintro e w' ⟨rfl, rfl⟩))
            go_ret2
            rw [IV2.out]
            exact ⟨rfl, Below.refl _ _⟩
      · have q1 : (u == 0) = false := by simpa using hu0
        have q2 : 0 < u := by omega
        cases b with
        | false =>
          clear hu0 hbad
          go_enter Try.func20, Try.ntmps20
          go_wp2_with fail
          rw [← HT.out]
          go_loop [5] (fun i => ∃ k : Nat, k ≤ T.size ∧ i = .int .i64 k ∧ Hid (∀ j, j < k → digB (by_ T j) = true)) (fun i => T.size - (intOf i).toNat)
          case atStart => exact ⟨0, by omega, rfl, Lib.hid (fun j hj => absurd hj (by omega))⟩
          case round =>
            obtain ⟨k, hk, rfl, H⟩ := hrel
            have k0 : (0 : Int) ≤ (k : Int) := by omega
            by_cases hlt : k < T.size
            · have h1 : (k : Int) < (T.size : Int) := by omega
              have h2 : decide ((k : Int) < (T.size : Int)) = true := by simpa using h1
              obtain ⟨c5, hc⟩ : ∃ c, c = T[k].toNat := ⟨_, rfl⟩
              have hc5 : by_ T k = c5 := by rw [hc, by_at T k hlt]
              have HC := Lib.hid hc5
              have D := Lib.hid (fun w => dig35 c5 w)
              rw [hc] at D
              cases hd : digB c5 with
              | true =>
                have HD := Lib.hid hd
                rw [hc] at hd
                clear hc hc5
                go_wp2_with (go_at_call 35; refine (D.out _).mono ?_; rintro e w' ⟨rfl, rfl⟩)
                go_round
                case rel => exact ⟨k + 1, by omega, by go_num, Lib.hid (fun j hj => by
                  by_cases e : j = k
                  · rw [e, HC.out]; exact HD.out
                  · exact H.out j (by omega))⟩
                case measure => simp [intOf]; omega
              | false =>
                have HD := Lib.hid hd
                rw [hc] at hd
                obtain rfl : k = n := DigN.uniq ⟨hk, H.out, fun _ => by rw [HC.out]; exact HD.out⟩ HN.out
                clear hc hc5
                go_wp2_with (first | (go_at_call 35; refine (D.out _).mono ?_; rintro e w' ⟨rfl, rfl⟩) | (go_at_call 36; refine (WH.out _).mono ?_; rintro e w' ⟨rfl, rfl⟩) | (go_at_call 37; refine (UN.out _).mono ?_; rintro e w' ⟨rfl, rfl⟩))
                go_ret2
                rw [IV2.out]
                exact ⟨rfl, Below.refl _ _⟩
            · have h1 : ¬ (k : Int) < (T.size : Int) := by omega
              have h2 : decide ((k : Int) < (T.size : Int)) = false := by simpa using h1
              have h3 : decide (k < T.size) = false := by simpa using hlt
              obtain rfl : k = n := DigN.uniq ⟨hk, H.out, fun h => absurd h hlt⟩ HN.out
              go_wp2_with (first | (go_at_call 36; refine (WH.out _).mono ?_; rintro e w' ⟨rfl, rfl⟩) | (go_at_call 37; refine (UN.out _).mono ?_; rintro e w' ⟨rfl, rfl⟩))
              go_ret2
              rw [IV2.out]
              exact ⟨rfl, Below.refl _ _⟩
        | true =>
          have q3' : 4294967295 / u < v := by
            rcases hbad with h | h | h
            · exact absurd h (by decide)
            · exact absurd h hu0
            · exact h
          have q3 : decide (4294967295 / u < v) = true := by simpa using q3'
          clear hu0 hbad
          go_enter Try.func20, Try.ntmps20
          go_wp2_with fail
          rw [← HT.out]
          go_loop [5] (fun i => ∃ k : Nat, k ≤ T.size ∧ i = .int .i64 k ∧ Hid (∀ j, j < k → digB (by_ T j) = true)) (fun i => T.size - (intOf i).toNat)
          case atStart => exact ⟨0, by omega, rfl, Lib.hid (fun j hj => absurd hj (by omega))⟩
          case round =>
            obtain ⟨k, hk, rfl, H⟩ := hrel
            have k0 : (0 : Int) ≤ (k : Int) := by omega
            by_cases hlt : k < T.size
            · have h1 : (k : Int) < (T.size : Int) := by omega
              have h2 : decide ((k : Int) < (T.size : Int)) = true := by simpa using h1
              obtain ⟨c5, hc⟩ : ∃ c, c = T[k].toNat := ⟨_, rfl⟩
              have hc5 : by_ T k = c5 := by rw [hc, by_at T k hlt]
              have HC := Lib.hid hc5
              have D := Lib.hid (fun w => dig35 c5 w)
              rw [hc] at D
              cases hd : digB c5 with
              | true =>
                have HD := Lib.hid hd
                rw [hc] at hd
                clear hc hc5
                go_wp2_with (go_at_call 35; refine (D.out _).mono ?_; rintro e w' ⟨rfl, rfl⟩)
                go_round
                case rel => exact ⟨k + 1, by omega, by go_num, Lib.hid (fun j hj => by
                  by_cases e : j = k
                  · rw [e, HC.out]; exact HD.out
                  · exact H.out j (by omega))⟩
                case measure => simp [intOf]; omega
              | false =>
                have HD := Lib.hid hd
                rw [hc] at hd
                obtain rfl : k = n := DigN.uniq ⟨hk, H.out, fun _ => by rw [HC.out]; exact HD.out⟩ HN.out
                clear hc hc5
                go_wp2_with (first | (go_at_call 35; refine (D.out _).mono ?_; rintro e w' ⟨rfl, rfl⟩) | (go_at_call 36; refine (WH.out _).mono ?_; rintro e w' ⟨rfl, rfl⟩) | (go_at_call 37; refine (UN.out _).mono ?_; rintro e w' ⟨rfl, rfl⟩))
                go_ret2
                rw [IV2.out]
                exact ⟨rfl, Below.refl _ _⟩
            · have h1 : ¬ (k : Int) < (T.size : Int) := by omega
              have h2 : decide ((k : Int) < (T.size : Int)) = false := by simpa using h1
              have h3 : decide (k < T.size) = false := by simpa using hlt
              obtain rfl : k = n := DigN.uniq ⟨hk, H.out, fun h => absurd h hlt⟩ HN.out
              go_wp2_with (first | (go_at_call 36; refine (WH.out _).mono ?_; rintro e w' ⟨rfl, rfl⟩) | (go_at_call 37; refine (UN.out _).mono ?_; rintro e w' ⟨rfl, rfl⟩))
              go_ret2
              rw [IV2.out]
              exact ⟨rfl, Below.refl _ _⟩
  · have IV2 := Lib.hid (show r = (wrap64 ((1) * v * u), true) from ivR_good' hbad vb1 vb2 IV.out)
    clear IV
    cases b with
    | false => exact absurd (.inl rfl) hbad
    | true =>
      have hu0 : ¬ u = 0 := fun h => hbad (.inr (.inl h))
      have q3' : ¬ 4294967295 / u < v := fun h => hbad (.inr (.inr h))
      have p0 := ok1 rfl
      have q1 : (u == 0) = false := by simpa using hu0
      have q2 : 0 < u := by omega
      have q3 : decide (4294967295 / u < v) = false := by simpa using q3'
      clear hu0 hbad ok1
      go_enter Try.func20, Try.ntmps20
      go_wp2_with fail
      rw [← HT.out]
      go_loop [5] (fun i => ∃ k : Nat, k ≤ T.size ∧ i = .int .i64 k ∧ Hid (∀ j, j < k → digB (by_ T j) = true)) (fun i => T.size - (intOf i).toNat)
      case atStart => exact ⟨0, by omega, rfl, Lib.hid (fun j hj => absurd hj (by omega))⟩
      case round =>
        obtain ⟨k, hk, rfl, H⟩ := hrel
        have k0 : (0 : Int) ≤ (k : Int) := by omega
        by_cases hlt : k < T.size
        · have h1 : (k : Int) < (T.size : Int) := by omega
          have h2 : decide ((k : Int) < (T.size : Int)) = true := by simpa using h1
          obtain ⟨c5, hc⟩ : ∃ c, c = T[k].toNat := ⟨_, rfl⟩
          have hc5 : by_ T k = c5 := by rw [hc, by_at T k hlt]
          have HC := Lib.hid hc5
          have D := Lib.hid (fun w => dig35 c5 w)
          rw [hc] at D
          cases hd : digB c5 with
          | true =>
            have HD := Lib.hid hd
            rw [hc] at hd
            clear hc hc5
            go_wp2_with (go_at_call 35; refine (D.out _).mono ?_; rintro e w' ⟨rfl, rfl⟩)
            go_round
            case rel => exact ⟨k + 1, by omega, by go_num, Lib.hid (fun j hj => by
              by_cases e : j = k
              · rw [e, HC.out]; exact HD.out
              · exact H.out j (by omega))⟩
            case measure => simp [intOf]; omega
          | false =>
            have HD := Lib.hid hd
            rw [hc] at hd
            obtain rfl : k = n := DigN.uniq ⟨hk, H.out, fun _ => by rw [HC.out]; exact HD.out⟩ HN.out
            clear hc hc5
            go_wp2_with (first | (go_at_call 35; refine (D.out _).mono ?_; rintro e w' ⟨rfl, rfl⟩) | (go_at_call 36; refine (WH.out _).mono ?_; rintro e w' ⟨rfl, rfl⟩) | (go_at_call 37; refine (UN.out _).mono ?_; rintro e w' ⟨rfl, rfl⟩))
            go_ret2
            rw [IV2.out]
            exact ⟨by simp, Below.refl _ _⟩
        · have h1 : ¬ (k : Int) < (T.size : Int) := by omega
          have h2 : decide ((k : Int) < (T.size : Int)) = false := by simpa using h1
          have h3 : decide (k < T.size) = false := by simpa using hlt
          obtain rfl : k = n := DigN.uniq ⟨hk, H.out, fun h => absurd h hlt⟩ HN.out
          go_wp2_with (first | (go_at_call 36; refine (WH.out _).mono ?_; rintro e w' ⟨rfl, rfl⟩) | (go_at_call 37; refine (UN.out _).mono ?_; rintro e w' ⟨rfl, rfl⟩))
          go_ret2
          rw [IV2.out]
          exact ⟨by simp, Below.refl _ _⟩
set_option maxHeartbeats 1000000 in
theorem iv20_other (s : ByteArray) (w : World) (hs : s.size ≤ maxLen) (n : Nat) (hz : 0 < s.size) (h45 : by_ s 0 ≠ 45) (h43 : by_ s 0 ≠ 43) (hn : DigN s n) :
    Calls Try.prog 20 #[.string s] w fun e w' => e = .returned (.tuple #[.int .i64 (ivC (1) s n).1, .bool (ivC (1) s n).2]) ∧ Below w.heap.size w w' := by
  have hts : s.size ≤ maxLen := hs
  have h0 : s.toList.isEmpty = false := by have := emptyB s; rw [show decide (0 < s.size) = true from by simp [hz]] at this; simpa using this
  obtain ⟨c, hc⟩ : ∃ c, c = by_ s 0 := ⟨_, rfl⟩
  have hc' : s[0].toNat = c := by rw [hc, by_at s 0 hz]
  rw [← hc] at h45 h43
  have t1 : ((c : Int) == 45) = false := by simp; omega
  have t2 : ((c : Int) == 43) = false := by simp; omega
  clear hc h45 h43
  have WH := Lib.hid (fun w => whole36 (s.extract 0 n) w (by rw [ByteArray.size_extract]; unfold maxLen at *; omega) hn.all)
  have UN := Lib.hid (fun w => unit37_any (s.extract n s.size) w)
  have hns := hn.1
  have hns' : (n : Int) ≤ (s.size : Int) := by omega
  have hn0 : (0 : Int) ≤ (n : Int) := by omega
  have HN := Lib.hid hn
  unfold maxLen at hs hts
  clear hn
  obtain ⟨ub1, ub2⟩ := unitF_bd (s.extract n s.size)
  unfold ivC
  obtain ⟨v, hv⟩ : ∃ v, v = (whP (s.extract 0 n)).1 := ⟨_, rfl⟩
  obtain ⟨vb1, vb2⟩ := whP_bd (s.extract 0 n)
  obtain ⟨b, hb⟩ : ∃ b, b = (whP (s.extract 0 n)).2 := ⟨_, rfl⟩
  obtain ⟨u, hu⟩ : ∃ u, u = unitF (s.extract n s.size) := ⟨_, rfl⟩
  have HB := Lib.hid hb
  rw [← hv, ← hb] at WH
  rw [← hv] at vb1 vb2
  rw [← hu] at UN ub1 ub2
  rw [← hv, ← hb, ← hu]
  clear hv hb hu
  have IV := Lib.hid (ivR_def (1) v b u)
  obtain ⟨r, hr⟩ : ∃ r, r = ivR (1) v b u := ⟨_, rfl⟩
  rw [← hr] at IV ⊢
  clear hr
  have IZ : n = 0 → b = false := fun h => by
    rw [HB.out, h]; exact whP_nil s
  clear HB
  have ok1 : b = true → ((n : Int) == 0) = false := fun h => by
    have : n ≠ 0 := fun e => by rw [IZ e] at h; cases h
    simpa using this
  have IZ' := Lib.hid IZ
  clear IZ
  by_cases hbad : b = false ∨ u = 0 ∨ 4294967295 / u < v
  · have IV2 := Lib.hid (show r = (0, false) from by rw [IV.out, if_pos hbad])
    clear IV
    by_cases hn00 : n = 0
    · have p0 : ((n : Int) == 0) = true := by simpa using hn00
      clear ok1 hn00 hbad
      go_enter Try.func20, Try.ntmps20
      go_wp2_with fail
      go_loop [5] (fun i => ∃ k : Nat, k ≤ s.size ∧ i = .int .i64 k ∧ Hid (∀ j, j < k → digB (by_ s j) = true)) (fun i => s.size - (intOf i).toNat)
      case atStart => exact ⟨0, by omega, rfl, Lib.hid (fun j hj => absurd hj (by omega))⟩
      case round =>
        obtain ⟨k, hk, rfl, H⟩ := hrel
        have k0 : (0 : Int) ≤ (k : Int) := by omega
        by_cases hlt : k < s.size
        · have h1 : (k : Int) < (s.size : Int) := by omega
          have h2 : decide ((k : Int) < (s.size : Int)) = true := by simpa using h1
          obtain ⟨c5, hc⟩ : ∃ c, c = s[k].toNat := ⟨_, rfl⟩
          have hc5 : by_ s k = c5 := by rw [hc, by_at s k hlt]
          have HC := Lib.hid hc5
          have D := Lib.hid (fun w => dig35 c5 w)
          rw [hc] at D
          cases hd : digB c5 with
          | true =>
            have HD := Lib.hid hd
            rw [hc] at hd
            clear hc hc5
            go_wp2_with (go_at_call 35; refine (D.out _).mono ?_; rintro e w' ⟨rfl, rfl⟩)
            go_round
            case rel => exact ⟨k + 1, by omega, by go_num, Lib.hid (fun j hj => by
              by_cases e : j = k
              · rw [e, HC.out]; exact HD.out
              · exact H.out j (by omega))⟩
            case measure => simp [intOf]; omega
          | false =>
            have HD := Lib.hid hd
            rw [hc] at hd
            obtain rfl : k = n := DigN.uniq ⟨hk, H.out, fun _ => by rw [HC.out]; exact HD.out⟩ HN.out
            clear hc hc5
            go_wp2_with (first | (go_at_call 35; refine (D.out _).mono ?_; rintro e w' ⟨rfl, rfl⟩) | (go_at_call 36; refine (WH.out _).mono ?_; rintro e w' ⟨rfl, rfl⟩) | (go_at_call 37; refine (UN.out _).mono ?_; rintro e w' ⟨rfl, rfl⟩))
            go_ret2
            rw [IV2.out]
            exact ⟨rfl, Below.refl _ _⟩
        · have h1 : ¬ (k : Int) < (s.size : Int) := by omega
          have h2 : decide ((k : Int) < (s.size : Int)) = false := by simpa using h1
          have h3 : decide (k < s.size) = false := by simpa using hlt
          obtain rfl : k = n := DigN.uniq ⟨hk, H.out, fun h => absurd h hlt⟩ HN.out
          go_wp2_with (first | (go_at_call 36; refine (WH.out _).mono ?_; rintro e w' ⟨rfl, rfl⟩) | (go_at_call 37; refine (UN.out _).mono ?_; rintro e w' ⟨rfl, rfl⟩))
          go_ret2
          rw [IV2.out]
          exact ⟨rfl, Below.refl _ _⟩
    · have p0 : ((n : Int) == 0) = false := by simpa using hn00
      clear ok1 hn00
      by_cases hu0 : u = 0
      · have q1 : (u == 0) = true := by simpa using hu0
        clear hu0 hbad
        go_enter Try.func20, Try.ntmps20
        go_wp2_with fail
        go_loop [5] (fun i => ∃ k : Nat, k ≤ s.size ∧ i = .int .i64 k ∧ Hid (∀ j, j < k → digB (by_ s j) = true)) (fun i => s.size - (intOf i).toNat)
        case atStart => exact ⟨0, by omega, rfl, Lib.hid (fun j hj => absurd hj (by omega))⟩
        case round =>
          obtain ⟨k, hk, rfl, H⟩ := hrel
          have k0 : (0 : Int) ≤ (k : Int) := by omega
          by_cases hlt : k < s.size
          · have h1 : (k : Int) < (s.size : Int) := by omega
            have h2 : decide ((k : Int) < (s.size : Int)) = true := by simpa using h1
            obtain ⟨c5, hc⟩ : ∃ c, c = s[k].toNat := ⟨_, rfl⟩
            have hc5 : by_ s k = c5 := by rw [hc, by_at s k hlt]
            have HC := Lib.hid hc5
            have D := Lib.hid (fun w => dig35 c5 w)
            rw [hc] at D
            cases hd : digB c5 with
            | true =>
              have HD := Lib.hid hd
              rw [hc] at hd
              clear hc hc5
              go_wp2_with (go_at_call 35; refine (D.out _).mono ?_; rintro e w' ⟨rfl, rfl⟩)
              go_round
              case rel => exact ⟨k + 1, by omega, by go_num, Lib.hid (fun j hj => by
                by_cases e : j = k
                · rw [e, HC.out]; exact HD.out
                · exact H.out j (by omega))⟩
              case measure => simp [intOf]; omega
            | false =>
              have HD := Lib.hid hd
              rw [hc] at hd
              obtain rfl : k = n := DigN.uniq ⟨hk, H.out, fun _ => by rw [HC.out]; exact HD.out⟩ HN.out
              clear hc hc5
              go_wp2_with (first | (go_at_call 35; refine (D.out _).mono ?_; rintro e w' ⟨rfl, rfl⟩) | (go_at_call 36; refine (WH.out _).mono ?_; rintro e w' ⟨rfl, rfl⟩) | (go_at_call 37; refine (UN.out _).mono ?_; rintro e w' ⟨rfl, rfl⟩))
              go_ret2
              rw [IV2.out]
              exact ⟨rfl, Below.refl _ _⟩
          · have h1 : ¬ (k : Int) < (s.size : Int) := by omega
            have h2 : decide ((k : Int) < (s.size : Int)) = false := by simpa using h1
            have h3 : decide (k < s.size) = false := by simpa using hlt
            obtain rfl : k = n := DigN.uniq ⟨hk, H.out, fun h => absurd h hlt⟩ HN.out
            go_wp2_with (first | (go_at_call 36; refine (WH.out _).mono ?_; rintro e w' ⟨rfl, rfl⟩) | (go_at_call 37; refine (UN.out _).mono ?_; rintro e w' ⟨rfl, rfl⟩))
            go_ret2
            rw [IV2.out]
            exact ⟨rfl, Below.refl _ _⟩
      · have q1 : (u == 0) = false := by simpa using hu0
        have q2 : 0 < u := by omega
        cases b with
        | false =>
          clear hu0 hbad
          go_enter Try.func20, Try.ntmps20
          go_wp2_with fail
          go_loop [5] (fun i => ∃ k : Nat, k ≤ s.size ∧ i = .int .i64 k ∧ Hid (∀ j, j < k → digB (by_ s j) = true)) (fun i => s.size - (intOf i).toNat)
          case atStart => exact ⟨0, by omega, rfl, Lib.hid (fun j hj => absurd hj (by omega))⟩
          case round =>
            obtain ⟨k, hk, rfl, H⟩ := hrel
            have k0 : (0 : Int) ≤ (k : Int) := by omega
            by_cases hlt : k < s.size
            · have h1 : (k : Int) < (s.size : Int) := by omega
              have h2 : decide ((k : Int) < (s.size : Int)) = true := by simpa using h1
              obtain ⟨c5, hc⟩ : ∃ c, c = s[k].toNat := ⟨_, rfl⟩
              have hc5 : by_ s k = c5 := by rw [hc, by_at s k hlt]
              have HC := Lib.hid hc5
              have D := Lib.hid (fun w => dig35 c5 w)
              rw [hc] at D
              cases hd : digB c5 with
              | true =>
                have HD := Lib.hid hd
                rw [hc] at hd
                clear hc hc5
                go_wp2_with (go_at_call 35; refine (D.out _).mono ?_; rintro e w' ⟨rfl, rfl⟩)
                go_round
                case rel => exact ⟨k + 1, by omega, by go_num, Lib.hid (fun j hj => by
                  by_cases e : j = k
                  · rw [e, HC.out]; exact HD.out
                  · exact H.out j (by omega))⟩
                case measure => simp [intOf]; omega
              | false =>
                have HD := Lib.hid hd
                rw [hc] at hd
                obtain rfl : k = n := DigN.uniq ⟨hk, H.out, fun _ => by rw [HC.out]; exact HD.out⟩ HN.out
                clear hc hc5
                go_wp2_with (first | (go_at_call 35; refine (D.out _).mono ?_; rintro e w' ⟨rfl, rfl⟩) | (go_at_call 36; refine (WH.out _).mono ?_; rintro e w' ⟨rfl, rfl⟩) | (go_at_call 37; refine (UN.out _).mono ?_; rintro e w' ⟨rfl, rfl⟩))
                go_ret2
                rw [IV2.out]
                exact ⟨rfl, Below.refl _ _⟩
            · have h1 : ¬ (k : Int) < (s.size : Int) := by omega
              have h2 : decide ((k : Int) < (s.size : Int)) = false := by simpa using h1
              have h3 : decide (k < s.size) = false := by simpa using hlt
              obtain rfl : k = n := DigN.uniq ⟨hk, H.out, fun h => absurd h hlt⟩ HN.out
              go_wp2_with (first | (go_at_call 36; refine (WH.out _).mono ?_; rintro e w' ⟨rfl, rfl⟩) | (go_at_call 37; refine (UN.out _).mono ?_; rintro e w' ⟨rfl, rfl⟩))
              go_ret2
              rw [IV2.out]
              exact ⟨rfl, Below.refl _ _⟩
        | true =>
          have q3' : 4294967295 / u < v := by
            rcases hbad with h | h | h
            · exact absurd h (by decide)
            · exact absurd h hu0
            · exact h
          have q3 : decide (4294967295 / u < v) = true := by simpa using q3'
          clear hu0 hbad
          go_enter Try.func20, Try.ntmps20
          go_wp2_with fail
          go_loop [5] (fun i => ∃ k : Nat, k ≤ s.size ∧ i = .int .i64 k ∧ Hid (∀ j, j < k → digB (by_ s j) = true)) (fun i => s.size - (intOf i).toNat)
          case atStart => exact ⟨0, by omega, rfl, Lib.hid (fun j hj => absurd hj (by omega))⟩
          case round =>
            obtain ⟨k, hk, rfl, H⟩ := hrel
            have k0 : (0 : Int) ≤ (k : Int) := by omega
            by_cases hlt : k < s.size
            · have h1 : (k : Int) < (s.size : Int) := by omega
              have h2 : decide ((k : Int) < (s.size : Int)) = true := by simpa using h1
              obtain ⟨c5, hc⟩ : ∃ c, c = s[k].toNat := ⟨_, rfl⟩
              have hc5 : by_ s k = c5 := by rw [hc, by_at s k hlt]
              have HC := Lib.hid hc5
              have D := Lib.hid (fun w => dig35 c5 w)
              rw [hc] at D
              cases hd : digB c5 with
              | true =>
                have HD := Lib.hid hd
                rw [hc] at hd
                clear hc hc5
                go_wp2_with (go_at_call 35; refine (D.out _).mono ?_; rintro e w' ⟨rfl, rfl⟩)
                go_round
                case rel => exact ⟨k + 1, by omega, by go_num, Lib.hid (fun j hj => by
                  by_cases e : j = k
                  · rw [e, HC.out]; exact HD.out
                  · exact H.out j (by omega))⟩
                case measure => simp [intOf]; omega
              | false =>
                have HD := Lib.hid hd
                rw [hc] at hd
                obtain rfl : k = n := DigN.uniq ⟨hk, H.out, fun _ => by rw [HC.out]; exact HD.out⟩ HN.out
                clear hc hc5
                go_wp2_with (first | (go_at_call 35; refine (D.out _).mono ?_; rintro e w' ⟨rfl, rfl⟩) | (go_at_call 36; refine (WH.out _).mono ?_; rintro e w' ⟨rfl, rfl⟩) | (go_at_call 37; refine (UN.out _).mono ?_; rintro e w' ⟨rfl, rfl⟩))
                go_ret2
                rw [IV2.out]
                exact ⟨rfl, Below.refl _ _⟩
            · have h1 : ¬ (k : Int) < (s.size : Int) := by omega
              have h2 : decide ((k : Int) < (s.size : Int)) = false := by simpa using h1
              have h3 : decide (k < s.size) = false := by simpa using hlt
              obtain rfl : k = n := DigN.uniq ⟨hk, H.out, fun h => absurd h hlt⟩ HN.out
              go_wp2_with (first | (go_at_call 36; refine (WH.out _).mono ?_; rintro e w' ⟨rfl, rfl⟩) | (go_at_call 37; refine (UN.out _).mono ?_; rintro e w' ⟨rfl, rfl⟩))
              go_ret2
              rw [IV2.out]
              exact ⟨rfl, Below.refl _ _⟩
  · have IV2 := Lib.hid (show r = (wrap64 ((1) * v * u), true) from ivR_good' hbad vb1 vb2 IV.out)
    clear IV
    cases b with
    | false => exact absurd (.inl rfl) hbad
    | true =>
      have hu0 : ¬ u = 0 := fun h => hbad (.inr (.inl h))
      have q3' : ¬ 4294967295 / u < v := fun h => hbad (.inr (.inr h))
      have p0 := ok1 rfl
      have q1 : (u == 0) = false := by simpa using hu0
      have q2 : 0 < u := by omega
      have q3 : decide (4294967295 / u < v) = false := by simpa using q3'
      clear hu0 hbad ok1
      go_enter Try.func20, Try.ntmps20
      go_wp2_with fail
      go_loop [5] (fun i => ∃ k : Nat, k ≤ s.size ∧ i = .int .i64 k ∧ Hid (∀ j, j < k → digB (by_ s j) = true)) (fun i => s.size - (intOf i).toNat)
      case atStart => exact ⟨0, by omega, rfl, Lib.hid (fun j hj => absurd hj (by omega))⟩
      case round =>
        obtain ⟨k, hk, rfl, H⟩ := hrel
        have k0 : (0 : Int) ≤ (k : Int) := by omega
        by_cases hlt : k < s.size
        · have h1 : (k : Int) < (s.size : Int) := by omega
          have h2 : decide ((k : Int) < (s.size : Int)) = true := by simpa using h1
          obtain ⟨c5, hc⟩ : ∃ c, c = s[k].toNat := ⟨_, rfl⟩
          have hc5 : by_ s k = c5 := by rw [hc, by_at s k hlt]
          have HC := Lib.hid hc5
          have D := Lib.hid (fun w => dig35 c5 w)
          rw [hc] at D
          cases hd : digB c5 with
          | true =>
            have HD := Lib.hid hd
            rw [hc] at hd
            clear hc hc5
            go_wp2_with (go_at_call 35; refine (D.out _).mono ?_; rintro e w' ⟨rfl, rfl⟩)
            go_round
            case rel => exact ⟨k + 1, by omega, by go_num, Lib.hid (fun j hj => by
              by_cases e : j = k
              · rw [e, HC.out]; exact HD.out
              · exact H.out j (by omega))⟩
            case measure => simp [intOf]; omega
          | false =>
            have HD := Lib.hid hd
            rw [hc] at hd
            obtain rfl : k = n := DigN.uniq ⟨hk, H.out, fun _ => by rw [HC.out]; exact HD.out⟩ HN.out
            clear hc hc5
            go_wp2_with (first | (go_at_call 35; refine (D.out _).mono ?_; rintro e w' ⟨rfl, rfl⟩) | (go_at_call 36; refine (WH.out _).mono ?_; rintro e w' ⟨rfl, rfl⟩) | (go_at_call 37; refine (UN.out _).mono ?_; rintro e w' ⟨rfl, rfl⟩))
            go_ret2
            rw [IV2.out]
            exact ⟨by simp, Below.refl _ _⟩
        · have h1 : ¬ (k : Int) < (s.size : Int) := by omega
          have h2 : decide ((k : Int) < (s.size : Int)) = false := by simpa using h1
          have h3 : decide (k < s.size) = false := by simpa using hlt
          obtain rfl : k = n := DigN.uniq ⟨hk, H.out, fun h => absurd h hlt⟩ HN.out
          go_wp2_with (first | (go_at_call 36; refine (WH.out _).mono ?_; rintro e w' ⟨rfl, rfl⟩) | (go_at_call 37; refine (UN.out _).mono ?_; rintro e w' ⟨rfl, rfl⟩))
          go_ret2
          rw [IV2.out]
          exact ⟨by simp, Below.refl _ _⟩
end Go.Proofs.Ytfldpaceebemhaa
