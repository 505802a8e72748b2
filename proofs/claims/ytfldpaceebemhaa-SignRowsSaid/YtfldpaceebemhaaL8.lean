/-
  The walks of agg.Name, agg.Kind, sign.Sort and their references.
-/
import Derived.Test.YtfldpaceebemhaaL6
import Derived.Test.YtfldpaceebemhaaL7
namespace Go.Proofs.Ytfldpaceebemhaa
open Go.RowKit

theorem ret_str {a b : ByteArray} (h : a = b) : Ending.returned (.string a) = .returned (.string b) := by rw [h]
/-- the names of the five -/
def nmB : Nat → ByteArray
  | 1 => ⟨#[97, 118, 101, 114, 97, 103, 101]⟩
  | 2 => ⟨#[115, 117, 109]⟩
  | 3 => ⟨#[108, 97, 115, 116]⟩
  | 4 => ⟨#[109, 97, 120]⟩
  | 5 => ⟨#[109, 105, 110]⟩
  | _ => ⟨#[]⟩
def kindL (s : ByteArray) : Nat → Nat → Int
  | 0, _ => 0
  | f + 1, k => if (nmB k).toList == s.toList then (k : Int) else kindL s f (k + 1)
/-- the kind of a name -/
def kindF (s : ByteArray) : Int := if s.toList == [97, 118, 103] then 1 else kindL s 5 1

theorem name34 (k : Nat) (h1 : 1 ≤ k) (h5 : k ≤ 5) (w : World) : Calls Try.prog 34 #[.int .i64 k] w fun e w' => e = .returned (.string (nmB k)) ∧ w = w' := by
  rcases (show k = 1 ∨ k = 2 ∨ k = 3 ∨ k = 4 ∨ k = 5 from by omega) with rfl | rfl | rfl | rfl | rfl
  all_goals
    simp only [nmB]
    go_enter Try.func34, Try.ntmps34
    go_wp2
    go_ret
    exact ⟨rfl, rfl⟩
theorem name38 (k : Nat) (h1 : 1 ≤ k) (h5 : k ≤ 5) (w : World) : Calls Try.prog 38 #[.int .i64 k] w fun e w' => e = .returned (.string (nmB k)) ∧ w = w' := by
  rcases (show k = 1 ∨ k = 2 ∨ k = 3 ∨ k = 4 ∨ k = 5 from by omega) with rfl | rfl | rfl | rfl | rfl
  all_goals
    simp only [nmB]
    go_enter Try.func38, Try.ntmps38
    go_wp2
    go_ret
    exact ⟨rfl, rfl⟩
theorem kind19 (s : ByteArray) (w : World) : Calls Try.prog 19 #[.string s] w fun e w' => e = .returned (.int .i64 (kindF s)) ∧ w = w' := by
  unfold kindF
  cases h0 : s.toList == ([97, 118, 103] : List UInt8) with
  | true =>
    rw [if_pos rfl]
    go_enter Try.func19, Try.ntmps19
    go_wp2
    go_ret
    exact ⟨rfl, rfl⟩
  | false =>
    rw [if_neg (by simp)]
    obtain ⟨r, hr⟩ : ∃ r, r = kindL s 5 1 := ⟨_, rfl⟩
    have HR := Lib.hid (show kindL s (6 - 1) 1 = r from hr.symm)
    rw [← hr]
    clear hr
    go_enter Try.func19, Try.ntmps19
    go_wp2
    go_loop [3] (fun i => ∃ k : Nat, 1 ≤ k ∧ k ≤ 6 ∧ i = .int .i64 k ∧ Hid (kindL s (6 - k) k = r)) (fun i => 6 - (intOf i).toNat)
    case atStart => exact ⟨1, by omega, by omega, rfl, HR⟩
    case round =>
      clear HR
      obtain ⟨k, hk1, hk, rfl, H⟩ := hrel
      have k0 : (1 : Int) ≤ (k : Int) := by omega
      by_cases hlt : k ≤ 5
      · have h1 : (k : Int) ≤ 5 := by omega
        have NM := Lib.hid (fun w => name34 k hk1 hlt w)
        have HK := Lib.hid (show kindL s (6 - k) k = if (nmB k).toList == s.toList then (k : Int) else kindL s (6 - (k + 1)) (k + 1) from by
          rw [show 6 - k = (6 - (k + 1)) + 1 from by omega]; rfl)
        obtain ⟨x, hx⟩ : ∃ x, x = nmB k := ⟨_, rfl⟩
        rw [← hx] at NM HK
        clear hx
        cases he : x.toList == s.toList with
        | true =>
          have HE := Lib.hid he
          go_wp2_with (go_at_call 34; refine (NM.out _).mono ?_; rintro e w' ⟨rfl, rfl⟩)
          go_ret
          exact ⟨ret_int (by rw [← H.out, HK.out, if_pos HE.out]), rfl⟩
        | false =>
          have HE := Lib.hid he
          go_wp2_with (go_at_call 34; refine (NM.out _).mono ?_; rintro e w' ⟨rfl, rfl⟩)
          go_round
          case rel => exact ⟨k + 1, by omega, by omega, by go_num, Lib.hid (by rw [← H.out, HK.out, if_neg (by rw [HE.out]; simp)])⟩
          case measure => simp [intOf]; omega
      · have h1 : ¬ (k : Int) ≤ 5 := by omega
        obtain rfl : k = 6 := by omega
        go_wp2_with fail
        go_ret
        exact ⟨ret_int (by rw [← H.out]; rfl), rfl⟩
theorem kind21 (s : ByteArray) (w : World) : Calls Try.prog 21 #[.string s] w fun e w' => e = .returned (.int .i64 (kindF s)) ∧ w = w' := by
  unfold kindF
  cases h0 : s.toList == ([97, 118, 103] : List UInt8) with
  | true =>
    rw [if_pos rfl]
    go_enter Try.func21, Try.ntmps21
    go_wp2
    go_ret
    exact ⟨rfl, rfl⟩
  | false =>
    rw [if_neg (by simp)]
    obtain ⟨r, hr⟩ : ∃ r, r = kindL s 5 1 := ⟨_, rfl⟩
    have HR := Lib.hid (show kindL s (6 - 1) 1 = r from hr.symm)
    rw [← hr]
    clear hr
    go_enter Try.func21, Try.ntmps21
    go_wp2
    go_loop [3] (fun i => ∃ k : Nat, 1 ≤ k ∧ k ≤ 6 ∧ i = .int .i64 k ∧ Hid (kindL s (6 - k) k = r)) (fun i => 6 - (intOf i).toNat)
    case atStart => exact ⟨1, by omega, by omega, rfl, HR⟩
    case round =>
      clear HR
      obtain ⟨k, hk1, hk, rfl, H⟩ := hrel
      have k0 : (1 : Int) ≤ (k : Int) := by omega
      by_cases hlt : k ≤ 5
      · have h1 : (k : Int) ≤ 5 := by omega
        have NM := Lib.hid (fun w => name38 k hk1 hlt w)
        have HK := Lib.hid (show kindL s (6 - k) k = if (nmB k).toList == s.toList then (k : Int) else kindL s (6 - (k + 1)) (k + 1) from by
          rw [show 6 - k = (6 - (k + 1)) + 1 from by omega]; rfl)
        obtain ⟨x, hx⟩ : ∃ x, x = nmB k := ⟨_, rfl⟩
        rw [← hx] at NM HK
        clear hx
        cases he : x.toList == s.toList with
        | true =>
          have HE := Lib.hid he
          go_wp2_with (go_at_call 38; refine (NM.out _).mono ?_; rintro e w' ⟨rfl, rfl⟩)
          go_ret
          exact ⟨ret_int (by rw [← H.out, HK.out, if_pos HE.out]), rfl⟩
        | false =>
          have HE := Lib.hid he
          go_wp2_with (go_at_call 38; refine (NM.out _).mono ?_; rintro e w' ⟨rfl, rfl⟩)
          go_round
          case rel => exact ⟨k + 1, by omega, by omega, by go_num, Lib.hid (by rw [← H.out, HK.out, if_neg (by rw [HE.out]; simp)])⟩
          case measure => simp [intOf]; omega
      · have h1 : ¬ (k : Int) ≤ 5 := by omega
        obtain rfl : k = 6 := by omega
        go_wp2_with fail
        go_ret
        exact ⟨ret_int (by rw [← H.out]; rfl), rfl⟩

theorem nD_ex (s : ByteArray) : ∃ n, DigN s n := DigN.ex s
noncomputable def nD (s : ByteArray) : Nat := Classical.choose (DigN.ex s)
theorem nD_is (s : ByteArray) : DigN s (nD s) := Classical.choose_spec (DigN.ex s)
/-- a text as an interval -/
noncomputable def ivF (s : ByteArray) : Int × Bool :=
  if s.size = 0 then ivC 1 s (nD s) else if by_ s 0 = 45 then ivC (-1) (s.extract 1 s.size) (nD (s.extract 1 s.size)) else if by_ s 0 = 43 then ivC 1 (s.extract 1 s.size) (nD (s.extract 1 s.size)) else ivC 1 s (nD s)
theorem ivC_no (sg : Int) (t : ByteArray) (n : Nat) (h : (ivC sg t n).2 = false) : (ivC sg t n).1 = 0 := by
  unfold ivC ivR at *
  split at h
  · rw [if_pos (by assumption)]
  · cases h
theorem ivF_no (s : ByteArray) (h : (ivF s).2 = false) : (ivF s).1 = 0 := by
  unfold ivF at *
  repeat' (split at h)
  all_goals simp_all [ivC_no]
theorem iv18 (s : ByteArray) (w : World) (hs : s.size ≤ maxLen) : Calls Try.prog 18 #[.string s] w fun e w' => e = .returned (.tuple #[.int .i64 (ivF s).1, .bool (ivF s).2]) ∧ Below w.heap.size w w' := by
  unfold ivF
  by_cases hz : s.size = 0
  · rw [if_pos hz]; exact iv18_nil s w hs _ hz (nD_is _)
  · rw [if_neg hz]
    by_cases h45 : by_ s 0 = 45
    · rw [if_pos h45]; exact iv18_minus s w hs _ (by omega) h45 (nD_is _)
    · rw [if_neg h45]
      by_cases h43 : by_ s 0 = 43
      · rw [if_pos h43]; exact iv18_plus s w hs _ (by omega) h43 (nD_is _)
      · rw [if_neg h43]; exact iv18_other s w hs _ (by omega) h45 h43 (nD_is _)
theorem iv20 (s : ByteArray) (w : World) (hs : s.size ≤ maxLen) : Calls Try.prog 20 #[.string s] w fun e w' => e = .returned (.tuple #[.int .i64 (ivF s).1, .bool (ivF s).2]) ∧ Below w.heap.size w w' := by
  unfold ivF
  by_cases hz : s.size = 0
  · rw [if_pos hz]; exact iv20_nil s w hs _ hz (nD_is _)
  · rw [if_neg hz]
    by_cases h45 : by_ s 0 = 45
    · rw [if_pos h45]; exact iv20_minus s w hs _ (by omega) h45 (nD_is _)
    · rw [if_neg h45]
      by_cases h43 : by_ s 0 = 43
      · rw [if_pos h43]; exact iv20_plus s w hs _ (by omega) h43 (nD_is _)
      · rw [if_neg h43]; exact iv20_other s w hs _ (by omega) h45 h43 (nD_is _)

/-- may a node be where a sort is asked -/
noncomputable def sortB (kd : Int) (tx : ByteArray) (n srt : Int) : Bool :=
  if srt = 1 then kd == 2 || kd == 1 else if srt = 2 then kd == 3 else if srt = 3 then kd == 3 && n.tmod 1000000 == 0
  else if srt = 4 then kd == 4 else if srt = 5 then kd == 5 else if srt = 6 then kd == 4 && decide (0 < (ivF tx).1) else if srt = 7 then kd == 4 && kindF tx != 0 else false
end Go.Proofs.Ytfldpaceebemhaa
