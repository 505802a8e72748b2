/-
  subst, plain; the walks of both digit and both Check. / The pieces of a template; the walk of graticuleref13.Expand.
-/
import Derived.Test.YtldcbkememonaaaPi
import Derived.Test.YtldcbkememonaaaJ2
import Derived.Test.YtldcbkememonaaaJ4
namespace Go.Proofs.Ytldcbkememonaaa
open Go.RowKit
set_option linter.unusedVariables false
set_option linter.unusedSimpArgs false

def digB (c : Nat) : Bool := decide (48 ≤ c) && decide (c ≤ 57)
def chkF (t : ByteArray) : Nat → Nat → Int
  | 0, _ => 0
  | k + 1, i => if i < t.size then (if by_ t i = 92 then (if i + 1 = t.size ∨ ¬ (by_ t (i + 1) = 92 ∨ digB (by_ t (i + 1)) = true) then 8 else chkF t k (i + 2)) else chkF t k (i + 1)) else 0
/-- what Check answers -/
def checkF (t : ByteArray) : Int := chkF t (t.size + 1) 0
set_option maxHeartbeats 400000 in
theorem dig37_any (c : Nat) (hc : c < 256) (w : World) : Calls Try.prog 37 #[.int .u8 c] w fun e w' => e = .returned (.bool (digB c)) ∧ w = w' := by
  unfold digB
  by_cases h1 : 48 ≤ c
  · by_cases h2 : c ≤ 57
    · have k1 : (48 : Int) ≤ (c : Int) := by omega
      have k2 : (c : Int) ≤ 57 := by omega
      go_enter Try.func37, Try.ntmps37
      go_wp2
      go_ret
      exact ⟨ret_bool (by simp [h1, h2]), rfl⟩
    · have k1 : (48 : Int) ≤ (c : Int) := by omega
      have k2 : ¬ (c : Int) ≤ 57 := by omega
      go_enter Try.func37, Try.ntmps37
      go_wp2
      go_ret
      exact ⟨ret_bool (by simp [h2]), rfl⟩
  · have k1 : ¬ (48 : Int) ≤ (c : Int) := by omega
    go_enter Try.func37, Try.ntmps37
    go_wp2
    go_ret
    exact ⟨ret_bool (by simp [h1]), rfl⟩
set_option maxHeartbeats 400000 in
theorem dig38_any (c : Nat) (hc : c < 256) (w : World) : Calls Try.prog 38 #[.int .u8 c] w fun e w' => e = .returned (.bool (digB c)) ∧ w = w' := by
  unfold digB
  by_cases h1 : 48 ≤ c
  · by_cases h2 : c ≤ 57
    · have k1 : (48 : Int) ≤ (c : Int) := by omega
      have k2 : (c : Int) ≤ 57 := by omega
      go_enter Try.func38, Try.ntmps38
      go_wp2
      go_ret
      exact ⟨ret_bool (by simp [h1, h2]), rfl⟩
    · have k1 : (48 : Int) ≤ (c : Int) := by omega
      have k2 : ¬ (c : Int) ≤ 57 := by omega
      go_enter Try.func38, Try.ntmps38
      go_wp2
      go_ret
      exact ⟨ret_bool (by simp [h2]), rfl⟩
  · have k1 : ¬ (48 : Int) ≤ (c : Int) := by omega
    go_enter Try.func38, Try.ntmps38
    go_wp2
    go_ret
    exact ⟨ret_bool (by simp [h1]), rfl⟩
def IntP (x : Int) (w : World) (e : Ending) (w' : World) : Prop := e = .returned (.int .i64 x) ∧ w = w'
set_option maxHeartbeats 2000000 in
theorem check27_any (t : ByteArray) (ht : t.size ≤ 10000) (w : World) : Calls Try.prog 27 #[.string t] w (IntP (checkF t) w) := by
  obtain ⟨R, hR⟩ : ∃ R, R = checkF t := ⟨_, rfl⟩
  rw [← hR]
  unfold checkF at hR
  have HR := Lib.hid hR
  have DG := Lib.hid (fun c (hc : c < 256) w => dig38_any c hc w)
  clear hR
  go_enter Try.func27, Try.ntmps27
  go_wp2
  go_loop [3] (fun u => ∃ (i k : Nat), i ≤ t.size ∧ u = .int .i64 i ∧ Hid (R = chkF t k i ∧ t.size + 1 ≤ k + i)) (fun u => t.size - (intOf u).toNat)
  case atStart => exact ⟨0, t.size + 1, by omega, rfl, Lib.hid ⟨HR.out, by omega⟩⟩
  case round =>
    obtain ⟨i, k, hi, rfl, HS⟩ := hrel
    have k0 : (0 : Int) ≤ (i : Int) := by omega
    have k5 : (i : Int) ≤ 10000 := by omega
    obtain ⟨k', hk⟩ : ∃ k', k = k' + 1 := ⟨k - 1, by have := HS.out.2; omega⟩
    subst hk
    have hs := HS.out.1
    unfold chkF at hs
    have HK := Lib.hid HS.out.2
    clear HS
    by_cases hlt : i < t.size
    · rw [if_pos hlt] at hs
      have k1 : (i : Int) < (t.size : Int) := by omega
      obtain ⟨c, hc⟩ : ∃ c, c = by_ t i := ⟨_, rfl⟩
      have ec : t[i].toNat = c := by rw [hc, by_at t i hlt]
      rw [← hc] at hs
      have HC := Lib.hid hc
      clear hc
      cases h92 : ((c : Int) == 92) with
      | true =>
        have h92' : ((c : Int) != 92) = false := by simpa [bne] using h92
        rw [if_pos (by simp at h92; omega)] at hs
        have H92 := Lib.hid h92
        clear h92
        by_cases hend : i + 1 = t.size
        · rw [if_pos (.inl hend)] at hs
          have e1 : ((i : Int) + 1 == (t.size : Int)) = true := by simp; omega
          have HS2 := Lib.hid hs
          clear hs hend
          go_wp2
          go_ret
          exact ⟨ret_int HS2.out.symm, rfl⟩
        · have e1 : ((i : Int) + 1 == (t.size : Int)) = false := by simp; omega
          have hl1 : i + 1 < t.size := by omega
          have k2 : (i : Int) + 1 < (t.size : Int) := by omega
          obtain ⟨d, hd⟩ : ∃ d, d = by_ t (i + 1) := ⟨_, rfl⟩
          have ed : t[i + 1].toNat = d := by rw [hd, by_at t (i + 1) hl1]
          have hd6 : d < 256 := by rw [hd]; exact by_lt _ _
          rw [← hd] at hs
          have HD := Lib.hid hd
          have DD := Lib.hid (fun w => DG.out d hd6 w)
          clear hd
          cases hd92 : ((d : Int) == 92) with
          | true =>
            have hd92' : ((d : Int) != 92) = false := by simpa [bne] using hd92
            rw [if_neg (by simp at hd92; omega)] at hs
            have HS2 := Lib.hid hs
            clear hs hend hd92
            go_wp2
            go_round
            case rel => exact ⟨i + 2, k', by omega, by go_num, Lib.hid ⟨HS2.out, by have := HK.out; omega⟩⟩
            case measure => simp [intOf]; omega
          | false =>
            have hd92' : ((d : Int) != 92) = true := by simpa [bne] using hd92
            cases hdg : digB d with
            | true =>
              rw [if_neg (by simp at hd92; rw [hdg]; simp; omega)] at hs
              rw [hdg] at DD
              have HS2 := Lib.hid hs
              clear hs hend hd92 hdg
              go_wp2_with fail
              refine (DD.out _).mono ?_
              rintro e w1 ⟨rfl, rfl⟩
              go_wp2
              go_round
              case rel => exact ⟨i + 2, k', by omega, by go_num, Lib.hid ⟨HS2.out, by have := HK.out; omega⟩⟩
              case measure => simp [intOf]; omega
            | false =>
              rw [if_pos (by simp at hd92; rw [hdg]; simp; omega)] at hs
              rw [hdg] at DD
              have HS2 := Lib.hid hs
              clear hs hend hd92 hdg
              go_wp2_with fail
              refine (DD.out _).mono ?_
              rintro e w1 ⟨rfl, rfl⟩
              go_wp2
              go_ret
              exact ⟨ret_int HS2.out.symm, rfl⟩
      | false =>
        have h92' : ((c : Int) != 92) = true := by simpa [bne] using h92
        rw [if_neg (by simp at h92; omega)] at hs
        have HS2 := Lib.hid hs
        clear hs h92
        go_wp2
        go_round
        case rel => exact ⟨i + 1, k', by omega, by go_num, Lib.hid ⟨HS2.out, by have := HK.out; omega⟩⟩
        case measure => simp [intOf]; omega
    · rw [if_neg hlt] at hs
      have k1 : ¬ (i : Int) < (t.size : Int) := by omega
      have HS2 := Lib.hid hs
      clear hs
      go_wp2
      go_ret
      exact ⟨ret_int HS2.out.symm, rfl⟩
set_option maxHeartbeats 2000000 in
theorem check28_any (t : ByteArray) (ht : t.size ≤ 10000) (w : World) : Calls Try.prog 28 #[.string t] w (IntP (checkF t) w) := by
  obtain ⟨R, hR⟩ : ∃ R, R = checkF t := ⟨_, rfl⟩
  rw [← hR]
  unfold checkF at hR
  have HR := Lib.hid hR
  have DG := Lib.hid (fun c (hc : c < 256) w => dig37_any c hc w)
  clear hR
  go_enter Try.func28, Try.ntmps28
  go_wp2
  go_loop [3] (fun u => ∃ (i k : Nat), i ≤ t.size ∧ u = .int .i64 i ∧ Hid (R = chkF t k i ∧ t.size + 1 ≤ k + i)) (fun u => t.size - (intOf u).toNat)
  case atStart => exact ⟨0, t.size + 1, by omega, rfl, Lib.hid ⟨HR.out, by omega⟩⟩
  case round =>
    obtain ⟨i, k, hi, rfl, HS⟩ := hrel
    have k0 : (0 : Int) ≤ (i : Int) := by omega
    have k5 : (i : Int) ≤ 10000 := by omega
    obtain ⟨k', hk⟩ : ∃ k', k = k' + 1 := ⟨k - 1, by have := HS.out.2; omega⟩
    subst hk
    have hs := HS.out.1
    unfold chkF at hs
    have HK := Lib.hid HS.out.2
    clear HS
    by_cases hlt : i < t.size
    · rw [if_pos hlt] at hs
      have k1 : (i : Int) < (t.size : Int) := by omega
      obtain ⟨c, hc⟩ : ∃ c, c = by_ t i := ⟨_, rfl⟩
      have ec : t[i].toNat = c := by rw [hc, by_at t i hlt]
      rw [← hc] at hs
      have HC := Lib.hid hc
      clear hc
      cases h92 : ((c : Int) == 92) with
      | true =>
        have h92' : ((c : Int) != 92) = false := by simpa [bne] using h92
        rw [if_pos (by simp at h92; omega)] at hs
        have H92 := Lib.hid h92
        clear h92
        by_cases hend : i + 1 = t.size
        · rw [if_pos (.inl hend)] at hs
          have e1 : ((i : Int) + 1 == (t.size : Int)) = true := by simp; omega
          have HS2 := Lib.hid hs
          clear hs hend
          go_wp2
          go_ret
          exact ⟨ret_int HS2.out.symm, rfl⟩
        · have e1 : ((i : Int) + 1 == (t.size : Int)) = false := by simp; omega
          have hl1 : i + 1 < t.size := by omega
          have k2 : (i : Int) + 1 < (t.size : Int) := by omega
          obtain ⟨d, hd⟩ : ∃ d, d = by_ t (i + 1) := ⟨_, rfl⟩
          have ed : t[i + 1].toNat = d := by rw [hd, by_at t (i + 1) hl1]
          have hd6 : d < 256 := by rw [hd]; exact by_lt _ _
          rw [← hd] at hs
          have HD := Lib.hid hd
          have DD := Lib.hid (fun w => DG.out d hd6 w)
          clear hd
          cases hd92 : ((d : Int) == 92) with
          | true =>
            have hd92' : ((d : Int) != 92) = false := by simpa [bne] using hd92
            rw [if_neg (by simp at hd92; omega)] at hs
            have HS2 := Lib.hid hs
            clear hs hend hd92
            go_wp2
            go_round
            case rel => exact ⟨i + 2, k', by omega, by go_num, Lib.hid ⟨HS2.out, by have := HK.out; omega⟩⟩
            case measure => simp [intOf]; omega
          | false =>
            have hd92' : ((d : Int) != 92) = true := by simpa [bne] using hd92
            cases hdg : digB d with
            | true =>
              rw [if_neg (by simp at hd92; rw [hdg]; simp; omega)] at hs
              rw [hdg] at DD
              have HS2 := Lib.hid hs
              clear hs hend hd92 hdg
              go_wp2_with fail
              refine (DD.out _).mono ?_
              rintro e w1 ⟨rfl, rfl⟩
              go_wp2
              go_round
              case rel => exact ⟨i + 2, k', by omega, by go_num, Lib.hid ⟨HS2.out, by have := HK.out; omega⟩⟩
              case measure => simp [intOf]; omega
            | false =>
              rw [if_pos (by simp at hd92; rw [hdg]; simp; omega)] at hs
              rw [hdg] at DD
              have HS2 := Lib.hid hs
              clear hs hend hd92 hdg
              go_wp2_with fail
              refine (DD.out _).mono ?_
              rintro e w1 ⟨rfl, rfl⟩
              go_wp2
              go_ret
              exact ⟨ret_int HS2.out.symm, rfl⟩
      | false =>
        have h92' : ((c : Int) != 92) = true := by simpa [bne] using h92
        rw [if_neg (by simp at h92; omega)] at hs
        have HS2 := Lib.hid hs
        clear hs h92
        go_wp2
        go_round
        case rel => exact ⟨i + 1, k', by omega, by go_num, Lib.hid ⟨HS2.out, by have := HK.out; omega⟩⟩
        case measure => simp [intOf]; omega
    · rw [if_neg hlt] at hs
      have k1 : ¬ (i : Int) < (t.size : Int) := by omega
      have HS2 := Lib.hid hs
      clear hs
      go_wp2
      go_ret
      exact ⟨ret_int HS2.out.symm, rfl⟩
end Go.Proofs.Ytldcbkememonaaa

namespace Go.Proofs.Ytldcbkememonaaa
open Go.RowKit
set_option linter.unusedVariables false
set_option linter.unusedSimpArgs false

def b92 : ByteArray := ⟨#[92]⟩
/-- what is laid for a template, from a place on -/
def pcs (t tx : ByteArray) (ps : List Int) : Nat → Nat → List ByteArray
  | 0, _ => []
  | k + 1, i => if i < t.size then
      (if by_ t i = 92 ∧ i + 1 < t.size then (if by_ t (i + 1) = 92 then b92 :: pcs t tx ps k (i + 2) else if digB (by_ t (i + 1)) = true then grpF tx ps ((by_ t (i + 1) : Int) - 48) :: pcs t tx ps k (i + 2) else b92 :: pcs t tx ps k (i + 1))
      else bs [by_ t i] :: pcs t tx ps k (i + 1)) else []
def joinB (s : ByteArray) (l : List ByteArray) : ByteArray := l.foldl (· ++ ·) s
/-- what Expand answers -/
def expF (t tx : ByteArray) (ps : List Int) : ByteArray := joinB e0 (pcs t tx ps (t.size + 1) 0)
theorem grpF_size (tx : ByteArray) (ps : List Int) (k : Int) : (grpF tx ps k).size ≤ tx.size := by
  unfold grpF
  split
  · show 0 ≤ tx.size
    omega
  · split
    · show 0 ≤ tx.size
      omega
    · rw [ByteArray.size_extract]; omega
theorem b92_eq : bs [92] = b92 := rfl
theorem e0_app (s : ByteArray) : e0 ++ s = s := by
  apply ByteArray.ext
  simp [e0, ByteArray.data_append]
theorem app_e0 (s : ByteArray) : s ++ e0 = s := by
  apply ByteArray.ext
  simp [e0, ByteArray.data_append]
set_option maxRecDepth 100000 in
set_option maxHeartbeats 4000000 in
theorem expand26_any (t tx : ByteArray) (ps : List Int) (a : Option Addr) (c : Nat) (w : World) (h : RdN ps a w) (hn : ps.length ≤ 100000) (ht : t.size ≤ 10000) (hx : tx.size ≤ 10000) : Calls Try.prog 26 #[.string t, .string tx, .slice a ps.length c] w (StrP (expF t tx ps) w) := by
  obtain ⟨R, hR⟩ : ∃ R, R = expF t tx ps := ⟨_, rfl⟩
  rw [← hR]
  unfold expF joinB at hR
  have HR := Lib.hid hR
  have DG := Lib.hid (fun c (hc : c < 256) w => dig37_any c hc w)
  have GR := fun k (hk : k ≤ 9223372036854775807) w' (g : Grow w w') => group20_any tx ps k a c w' (h.grow g) hn (by omega) hk
  obtain ⟨n, hN⟩ : ∃ n, n = ps.length := ⟨_, rfl⟩
  rw [← hN] at GR ⊢
  have GR := Lib.hid GR
  clear hR h hn hN
  go_enter Try.func26, Try.ntmps26
  go_wp2
  go_loopw [7, 8] (fun t7 t8 wr => ∃ (i k : Nat) (s : ByteArray), i ≤ t.size ∧ t7 = .string s ∧ t8 = .int .i64 i ∧ Hid (R = (pcs t tx ps k i).foldl (· ++ ·) s ∧ t.size + 1 ≤ k + i) ∧ Hid (s.size ≤ 10000 * i) ∧ Hid (Grow w wr)) (fun _ t8 _ => t.size - (intOf t8).toNat)
  case atStart => exact ⟨0, t.size + 1, e0, by omega, rfl, rfl, Lib.hid ⟨HR.out, by omega⟩, Lib.hid (by show 0 ≤ _; omega), Lib.hid (Grow.refl w)⟩
  case round =>
    obtain ⟨i, k, s, hi, rfl, rfl, HS, HZ, HG⟩ := hrel
    have k0 : (0 : Int) ≤ (i : Int) := by omega
    have k5 : (i : Int) ≤ 10000 := by omega
    obtain ⟨k', hk⟩ : ∃ k', k = k' + 1 := ⟨k - 1, by have := HS.out.2; omega⟩
    subst hk
    have hs := HS.out.1
    unfold pcs at hs
    have HK := Lib.hid HS.out.2
    clear HS
    by_cases hlt : i < t.size
    · rw [if_pos hlt] at hs
      have k1 : (i : Int) < (t.size : Int) := by omega
      have z1 : ¬ 9223372036854775807 < s.size + 1 := by have := HZ.out; omega
      obtain ⟨c, hc⟩ : ∃ c, c = by_ t i := ⟨_, rfl⟩
      have ec : t[i].toNat = c := by rw [hc, by_at t i hlt]
      have hc6 : c < 256 := by rw [hc]; exact by_lt _ _
      rw [← hc] at hs
      have HC := Lib.hid hc
      clear hc
      have i0 : (0 : Int) ≤ (c : Int) := by omega
      have i1 : (c : Int) < 256 := by omega
      have CV := Lib.hid (show (convert 80 9 (.slice (some ⟨wr.heap.size, 0, none⟩) 1 1)).run Try.prog (wr.alloc (.cells #[.int .u8 c] 5)) = .ok (.string (bs [c])) (wr.alloc (.cells #[.int .u8 c] 5)) from by
        have := World.ownsRow_lit (base := 0) (e := 5) (size := 1) wr #[.int .u8 c] 1 (Nat.zero_le _) (by unfold maxLen; omega) (by simp)
        exact conv80 (l := [c]) (by simpa [bytesV] using this) (by intro x hx; simp at hx; omega))
      cases h92 : ((c : Int) == 92) with
      | true =>
        have H92 := Lib.hid (show c = 92 from by simp at h92; omega)
        by_cases hend : i + 1 < t.size
        · rw [if_pos ⟨H92.out, hend⟩] at hs
          have k2 : (i : Int) + 1 < (t.size : Int) := by omega
          obtain ⟨d, hd⟩ : ∃ d, d = by_ t (i + 1) := ⟨_, rfl⟩
          have ed : t[i + 1].toNat = d := by rw [hd, by_at t (i + 1) hend]
          have hd6 : d < 256 := by rw [hd]; exact by_lt _ _
          rw [← hd] at hs
          have HD := Lib.hid hd
          have DD := Lib.hid (fun w => DG.out d hd6 w)
          clear hd
          cases hdg : digB d with
          | true =>
            have hdb : 48 ≤ d ∧ d ≤ 57 := by unfold digB at hdg; simp at hdg; exact hdg
            rw [if_neg (by omega), if_pos hdg] at hs
            rw [hdg] at DD
            have j0 : (48 : Int) ≤ (d : Int) := by omega
            have j1 : (d : Int) ≤ 57 := by omega
            have GG := Lib.hid (GR.out ((d : Int) - 48) (by omega))
            obtain ⟨gp, hgp⟩ : ∃ gp, gp = grpF tx ps ((d : Int) - 48) := ⟨_, rfl⟩
            have hgz : gp.size ≤ 10000 := by rw [hgp]; have := grpF_size tx ps ((d : Int) - 48); omega
            rw [← hgp] at GG hs
            have z2 : ¬ 9223372036854775807 < s.size + gp.size := by have := HZ.out; omega
            have HS2 := Lib.hid hs
            clear hs hdg hgp
            go_wp2_with fail
            refine (DD.out _).mono ?_
            rintro e w1 ⟨rfl, rfl⟩
            go_wp2_with fail
            refine (GG.out _ HG.out).mono ?_
            rintro e w2 ⟨rfl, g2⟩
            have G2 := Lib.hid (HG.out.trans2 g2)
            clear g2
            go_wp2
            go_roundw
            case rel => exact ⟨i + 2, k', s ++ gp, by omega, rfl, by go_num, Lib.hid ⟨HS2.out, by have := HK.out; omega⟩, Lib.hid (by have := HZ.out; rw [ByteArray.size_append]; omega), G2⟩
            case measure => simp [intOf]; omega
          | false =>
            rw [hdg] at DD
            cases hd92 : ((d : Int) == 92) with
            | true =>
              rw [if_pos (by simp at hd92; omega)] at hs
              have HS2 := Lib.hid hs
              clear hs hdg
              go_wp2_with fail
              refine (DD.out _).mono ?_
              rintro e w1 ⟨rfl, rfl⟩
              go_wp2
              go_roundw
              case rel => exact ⟨i + 2, k', s ++ b92, by omega, rfl, by go_num, Lib.hid ⟨HS2.out, by have := HK.out; omega⟩, Lib.hid (by have := HZ.out; rw [ByteArray.size_append, show b92.size = 1 from rfl]; omega), HG⟩
              case measure => simp [intOf]; omega
            | false =>
              rw [if_neg (by simp at hd92; omega), if_neg (by rw [hdg]; decide)] at hs
              have HS2 := Lib.hid hs
              clear hs hdg
              go_wp2_with fail
              refine (DD.out _).mono ?_
              rintro e w1 ⟨rfl, rfl⟩
              have bz : (bs [c]).size = 1 := by rw [bs_size]; rfl
              have z3 : ¬ 9223372036854775807 < s.size + (bs [c]).size := by rw [bz]; exact z1
              have CV2 := CV.out
              have BZ := Lib.hid bz
              have PE := Lib.hid (show bs [c] = b92 from (by rw [H92.out]; rfl))
              clear bz
              go_wp2
              go_roundw
              case rel => exact ⟨i + 1, k', s ++ bs [c], by omega, rfl, by go_num, Lib.hid ⟨by have h1 := HS2.out; rw [PE.out]; exact h1, by have := HK.out; omega⟩, Lib.hid (by have := HZ.out; rw [ByteArray.size_append, BZ.out]; omega), Lib.hid (HG.out.alloc _)⟩
              case measure => simp [intOf]; omega
        · rw [if_neg (fun e => hend e.2)] at hs
          have k2 : ¬ (i : Int) + 1 < (t.size : Int) := by omega
          have HS2 := Lib.hid hs
          clear hs
          have bz : (bs [c]).size = 1 := by rw [bs_size]; rfl
          have z3 : ¬ 9223372036854775807 < s.size + (bs [c]).size := by rw [bz]; exact z1
          have CV2 := CV.out
          have BZ := Lib.hid bz
          have PE := Lib.hid (show bs [c] = bs [c] from rfl)
          clear bz
          go_wp2
          go_roundw
          case rel => exact ⟨i + 1, k', s ++ bs [c], by omega, rfl, by go_num, Lib.hid ⟨by have h1 := HS2.out; rw [PE.out]; exact h1, by have := HK.out; omega⟩, Lib.hid (by have := HZ.out; rw [ByteArray.size_append, BZ.out]; omega), Lib.hid (HG.out.alloc _)⟩
          case measure => simp [intOf]; omega
      | false =>
        rw [if_neg (by simp at h92; omega)] at hs
        have HS2 := Lib.hid hs
        clear hs
        have bz : (bs [c]).size = 1 := by rw [bs_size]; rfl
        have z3 : ¬ 9223372036854775807 < s.size + (bs [c]).size := by rw [bz]; exact z1
        have CV2 := CV.out
        have BZ := Lib.hid bz
        have PE := Lib.hid (show bs [c] = bs [c] from rfl)
        clear bz
        go_wp2
        go_roundw
        case rel => exact ⟨i + 1, k', s ++ bs [c], by omega, rfl, by go_num, Lib.hid ⟨by have h1 := HS2.out; rw [PE.out]; exact h1, by have := HK.out; omega⟩, Lib.hid (by have := HZ.out; rw [ByteArray.size_append, BZ.out]; omega), Lib.hid (HG.out.alloc _)⟩
        case measure => simp [intOf]; omega
    · rw [if_neg hlt] at hs
      have k1 : ¬ (i : Int) < (t.size : Int) := by omega
      have HS2 := Lib.hid hs
      clear hs
      go_wp2
      go_ret
      exact ⟨ret_str HS2.out.symm, HG.out⟩
end Go.Proofs.Ytldcbkememonaaa
