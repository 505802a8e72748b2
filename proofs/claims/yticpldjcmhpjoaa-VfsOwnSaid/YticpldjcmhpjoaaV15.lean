/-
  The walk of Used.
-/
import Derived.Test.YticpldjcmhpjoaaV14
namespace Go.Proofs.Yticpldjcmhpjoaa
open Go.RowKit
set_option linter.unusedVariables false
set_option linter.unusedSimpArgs false

set_option maxRecDepth 20000 in
theorem used_any {P : Nat → Prop} (fb mb n : Nat) (fs : List File) (w : World) (h2 : w.cell? ⟨fb, 2, none⟩ = some (.map (some mb))) (hF : FilesV P w mb n (look fs)) (hnd : NodupF fs) (ht : sumL fs ≤ 1073741824) :
    Calls Try.prog 20 #[.pointer (some ⟨fb, 0, none⟩)] w (OnlyP (.int .i64 (sumL fs : Int)) w) := by
  obtain ⟨f, ⟨D, hown, htd, hD⟩, hg⟩ := hF
  have HEN := Lib.hid (show ∀ (kl : Lit) (c : Value) (x : ByteArray), keyOf Try.prog 9 (.string x) = some kl → (∀ zd, D.atKey kl zd = .held c) → ∃ (a : Option Addr) (b : List UInt8) (cp : Nat), c = .slice a b.length cp ∧ kl = keyL x ∧ (x, b) ∈ fs from by
    intro kl c x hk hat
    obtain ⟨s, hs, rfl, _⟩ := WideMaps.string_of_keyOf Try.underlying9 hk
    injection hs with hs
    subst hs
    have hh := Maps.has_true_of_atKey hat
    obtain ⟨e1, e2⟩ := hD x
    unfold keyL at e1 e2
    rw [hh] at e2
    rw [hat] at e1
    cases hf : f x with
    | none => rw [hf] at e2; cases e2
    | some v =>
      rw [hf] at e1
      injection e1 with e1
      simp only [Option.getD_some] at e1
      subst e1
      cases hl : look fs x with
      | none => rw [(hg x).1 hl] at hf; cases hf
      | some b =>
        obtain ⟨v', h3, h4⟩ := (hg x).2 b hl
        rw [hf] at h3
        injection h3 with h3
        subst h3
        obtain ⟨a, cp, rfl⟩ := h4.shape
        exact ⟨a, b, cp, rfl, rfl, look_mem hl⟩)
  have H0 := Lib.hid (show rem (Maps.has D) fs = sumL fs from rem_all _ _ (fun p hp => by
    have e := (hD p.1).2
    cases hf : f p.1 with
    | none =>
      obtain ⟨v, h3, _⟩ := (hg p.1).2 p.2 (mem_look hnd hp)
      rw [hf] at h3; cases h3
    | some v => rw [e, hf]; rfl))
  have HND := Lib.hid hnd
  obtain ⟨T, hT⟩ : ∃ T, T = sumL fs := ⟨_, rfl⟩
  rw [← hT] at ht H0 ⊢
  have HT := Lib.hid hT
  clear hD htd hg hnd hT
  go_enter Try.func20, Try.ntmps20
  go_wp2_with (first
    | (at_range; refine wpList_range_own _ rfl _ 56 rfl 9 22 keyed9 Try.underlying56 rawE mb n D rfl hown ?_; intro w0 hrg0 hg0 hs0)
    | go_in)
  go_frame
  have HW0 := Lib.hid (show Below w.heap.size w w0 from ⟨hg0.os, hg0.tape, hg0.output, hg0.size, fun k hk => hg0.block k hk (by simp)⟩)
  clear hg0 hs0
  go_loopw [3] (fun n1 wr => ∃ (left : Lit → Bool) (cnt m : Nat), wr.ranges Try.prog 9 rawE mb w.heap.size n D left cnt ∧ n1 = .int .i64 (m : Int) ∧ Hid (m + rem left fs = T) ∧ Hid (Below w.heap.size w wr))
    (fun _ wr => wr.rangeLeft mb w.heap.size)
  case atStart => exact ⟨_, _, 0, hrg0, rfl, Lib.hid (by rw [H0.out]; omega), HW0⟩
  case round =>
    obtain ⟨left, cnt, m, hrg, rfl, HM, HB⟩ := hrel
    go_wp2_with (first
      | (at_next; refine wpList_next_ranges (α := ByteArray) (β := Value) _ rfl _ rfl 9 keyed9 rawE Value.string id (fun key kl hk => by obtain ⟨s, h, _⟩ := WideMaps.string_of_keyOf Try.underlying9 hk; exact ⟨s, h⟩) (fun v y _ => ⟨v, rfl⟩) mb w.heap.size n _ _ _ rfl hrg ?_ ?_)
      | go_in)
    · intro hc0 hl0
      have hm : m = T := by
        have := HM.out
        rw [rem_none _ _ hl0] at this
        omega
      subst hm
      go_wp2
      go_ret
      exact ⟨rfl, HB.out⟩
    · intro x c kl y ps w1 cnt1 hkey hlk hv hat hrg1 hlt hg1 hs1 hen
      have hv' : y = DataW.held c := by
        unfold rawE at hv
        injection hv with hv
        injection hv with hv _
        exact hv.symm
      subst hv'
      obtain ⟨a, b, cp, rfl, rfl, hmem⟩ := HEN.out kl c x hkey hat
      obtain ⟨bl, hbl⟩ : ∃ bl, bl = b.length := ⟨_, rfl⟩
      have hst := rem_step left fs HND.out (x, b) hmem hlk
      have HST := Lib.hid hst
      have HB1 := Lib.hid (show Below w.heap.size w w1 from ⟨hg1.os.trans HB.out.os, hg1.tape.trans HB.out.tape, hg1.output.trans HB.out.output, Nat.le_trans HB.out.size hg1.size, fun k hk => (hg1.block k (by have := HB.out.size; omega) (by simp; omega)).trans (HB.out.block k hk)⟩)
      have HBL := Lib.hid hbl
      have hm9 : m + bl ≤ 1073741824 := by have := HM.out; have := HST.out; simp only at this; omega
      try simp only [id] at hen
      rw [← hbl] at hen
      have HRG1 := Lib.hid hrg1
      have HRG := Lib.hid hrg
      have HLT := Lib.hid hlt
      clear hkey hat hrg1 hlt hg1 hs1 hst hbl hmem hv hlk
      go_wp2
      go_roundw
      case rel => exact ⟨_, cnt1, m + bl, HRG1.out, by go_num, Lib.hid (by have := HM.out; have h9 := HST.out; have := HBL.out; simp only at h9; omega), HB1⟩
      case measure => rw [HRG1.out.left_eq, HRG.out.left_eq]; exact HLT.out
end Go.Proofs.Yticpldjcmhpjoaa
