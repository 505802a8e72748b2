/-
  The walks of find, Size, Remove, Read, WriteAt over an FS in memory.
-/
import Derived.Test.YticpldjcmhpjoaaV18
namespace Go.Proofs.Yticpldjcmhpjoaa
open Go.RowKit
set_option linter.unusedVariables false
set_option linter.unusedSimpArgs false

def findD (D : Doc) (s : ByteArray) : List UInt8 × Int := if isB s then (match look D.now s with | some l => (l, 0) | none => ([], 5)) else ([], 1)
theorem findD_cases (D : Doc) (s : ByteArray) : findD D s = ([], 1) ∨ findD D s = ([], 5) ∨ ∃ l, findD D s = (l, 0) ∧ isB s = true ∧ look D.now s = some l := by
  unfold findD
  cases hb : isB s with
  | false => left; rfl
  | true =>
    cases hl : look D.now s with
    | none => right; left; rfl
    | some l => right; right; exact ⟨l, rfl, rfl, rfl⟩
theorem find2_any {P : Nat → Prop} (fb K : Nat) (D : Doc) (s : ByteArray) (w : World) (hS : FsAt P w fb D.fs K) :
    Calls Try.prog 33 #[.pointer (some ⟨fb, 0, none⟩), .string s] w fun e w' => ∃ a c, e = .returned (.tuple #[.slice a (findD D s).1.length c, .int .i64 (findD D s).2]) ∧ Hid (BytesIn P w' (.slice a (findD D s).1.length c) (findD D s).1) ∧ Grow w w' := by
  obtain ⟨pb, mb, sb, n, m, cv, cs, hM, hnK, hmK⟩ := hS
  have f2 : w.cell? ⟨fb, 2, none⟩ = some (.map (some mb)) := by rw [cell_blk hM.hf]; rfl
  obtain ⟨f, hmv, hfl⟩ := hM.now
  refine (find_any s fb mb n f w f2 hmv).mono ?_
  rintro e w' ⟨rfl, hg⟩
  unfold findR findD
  cases hb : isB s with
  | false => exact ⟨none, 0, rfl, Lib.hid (.inl ⟨rfl, rfl⟩), hg⟩
  | true =>
    cases hl : look D.now s with
    | none =>
      have := (hfl s).1 hl
      simp only [this, if_true]
      exact ⟨none, 0, rfl, Lib.hid (.inl ⟨rfl, rfl⟩), hg⟩
    | some l =>
      obtain ⟨v, h1, h2⟩ := (hfl s).2 l hl
      obtain ⟨a, c, rfl⟩ := h2.shape
      simp only [h1, if_true]
      exact ⟨a, c, rfl, Lib.hid (h2.turn (Turn.of_grow (P := fun _ => False) hg)), hg⟩
theorem size2_any {P : Nat → Prop} (fb K : Nat) (D : Doc) (s : ByteArray) (w : World) (hS : FsAt P w fb D.fs K) :
    Calls Try.prog 25 #[.pointer (some ⟨fb, 0, none⟩), .string s] w (OnlyP (.tuple #[.int .i64 ((findD D s).1.length : Int), .int .i64 (findD D s).2]) w) := by
  have FN := find2_any fb K D s w hS
  obtain ⟨k, hk⟩ : ∃ k, k = (findD D s).1.length := ⟨_, rfl⟩
  obtain ⟨er, her⟩ : ∃ er, er = (findD D s).2 := ⟨_, rfl⟩
  rw [← hk, ← her] at FN ⊢
  have FN := Lib.hid FN
  clear hS hk her
  go_enter Try.func25, Try.ntmps25
  go_wp2_with fail
  refine FN.out.mono ?_
  rintro _ w2 ⟨a, c, rfl, hb, g2⟩
  have G2 := Lib.hid g2
  clear g2 hb
  go_wp2
  refine bodyPost_ret (v := .tuple #[.int .i64 k, .int .i64 er]) (by simp [results, Try.results25, go_sem]) rfl ?_
  exact ⟨rfl, G2.out⟩
def removeD (D : Doc) (s : ByteArray) : Int × Doc := if (findD D s).2 = 0 then (0, D.did ⟨2, s, 0, []⟩) else ((findD D s).2, D)
theorem FsP.only {P : Nat → Prop} {w w' : World} {fb K : Nat} {D : Doc} {v : Value} (h : FsAt P w fb D.fs K) (hg : Grow w w') : FsP P fb K v D w (.returned v) w' := ⟨rfl, h.more hg, Turn.of_grow hg⟩
set_option maxHeartbeats 2000000 in
theorem remove_any {P : Nat → Prop} (fb K : Nat) (D : Doc) (s : ByteArray) (w : World) (hS : FsAt P w fb D.fs K) (hG : Good D) (hK : K ≤ 1000000) :
    Calls Try.prog 26 #[.pointer (some ⟨fb, 0, none⟩), .string s] w (FsP P fb K (.int .i64 (removeD D s).1) (removeD D s).2 w) := by
  have FN := find2_any fb K D s w hS
  have HS := Lib.hid hS
  unfold removeD
  rcases findD_cases D s with h | h | ⟨l, h, hb, hl⟩
  · rw [h] at FN ⊢
    have FN := Lib.hid FN
    clear hS h hG
    go_enter Try.func26, Try.ntmps26
    go_wp2_with fail
    refine FN.out.mono ?_
    rintro _ w2 ⟨a, c, rfl, hb, g2⟩
    have G2 := Lib.hid g2
    clear g2 hb
    go_wp2
    go_ret
    exact FsP.only HS.out G2.out
  · rw [h] at FN ⊢
    have FN := Lib.hid FN
    clear hS h hG
    go_enter Try.func26, Try.ntmps26
    go_wp2_with fail
    refine FN.out.mono ?_
    rintro _ w2 ⟨a, c, rfl, hb, g2⟩
    have G2 := Lib.hid g2
    clear g2 hb
    go_wp2
    go_ret
    exact FsP.only HS.out G2.out
  · rw [h] at FN ⊢
    have FN := Lib.hid FN
    have HC := Lib.hid (show OkC D.now ⟨2, s, 0, []⟩ from ⟨hb, by simp, .inr (.inr ⟨rfl, l, hl⟩)⟩)
    have hs : s.size ≤ maxLen := by
      unfold isB at hb
      simp at hb
      unfold maxLen
      omega
    have HSZ := Lib.hid hs
    have HSM := Lib.hid (hG.runs.last.small hG.room)
    clear hS h hG hb hl hs
    rw [if_pos rfl]
    go_enter Try.func26, Try.ntmps26
    go_wp2_with fail
    refine FN.out.mono ?_
    rintro _ w2 ⟨a, c, rfl, hb, g2⟩
    have DA := Lib.hid (does_any (P := More P w w2) fb K D.fs ⟨2, s, 0, []⟩ (.slice none 0 0) w2 HC.out.valid ((HS.out.turn (Turn.of_grow (P := fun _ => False) g2) (fun _ _ h => h)).mono (fun k _ h => .inl h)) hK HSZ.out (.inl ⟨rfl, rfl⟩) HC.out.data HSM.out)
    unfold Chg.val at DA
    have G2 := Lib.hid g2
    clear g2 hb
    go_wp2_with fail
    refine DA.out.mono ?_
    rintro e w8 ⟨rfl, hF8, t8⟩
    rw [← fs_did HC.out] at hF8
    have FIN := Lib.hid (FsAt.after G2.out hF8 t8)
    clear hF8 t8
    go_wp2
    go_ret
    exact ⟨rfl, FIN.out.1, FIN.out.2⟩
end Go.Proofs.Yticpldjcmhpjoaa
