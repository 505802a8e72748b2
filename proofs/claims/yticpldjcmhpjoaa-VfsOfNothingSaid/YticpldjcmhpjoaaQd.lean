/-
  Files as a list; how many bytes they have. / The walk of Used. / bytes.Join of parts that came in.
-/
import Derived.Test.YticpldjcmhpjoaaQc
import Derived.Maps.RangeWalk
namespace Go.Proofs.Yticpldjcmhpjoaa
open Go.RowKit
set_option linter.unusedVariables false
set_option linter.unusedSimpArgs false

abbrev File := ByteArray × List UInt8
def look : List File → Look
  | [], _ => none
  | p :: r, s => if s = p.1 then some p.2 else look r s
def sumL : List File → Nat
  | [] => 0
  | p :: r => p.2.length + sumL r
/-- bytes of the files whose keys are still to come -/
def rem (left : Lit → Bool) : List File → Nat
  | [] => 0
  | p :: r => (if left (keyL p.1) then p.2.length else 0) + rem left r
def NodupF (fs : List File) : Prop := (fs.map (·.1)).Nodup
theorem look_mem {fs : List File} {s : ByteArray} {b : List UInt8} (h : look fs s = some b) : (s, b) ∈ fs := by
  induction fs with
  | nil => cases h
  | cons p r ih =>
    unfold look at h
    by_cases e : s = p.1
    · rw [if_pos e] at h
      injection h with h
      subst e
      subst h
      exact List.mem_cons_self
    · rw [if_neg e] at h
      exact List.mem_cons_of_mem _ (ih h)
theorem look_none {fs : List File} {s : ByteArray} (h : look fs s = none) : ∀ p ∈ fs, p.1 ≠ s := by
  induction fs with
  | nil => intro p hp; cases hp
  | cons q r ih =>
    unfold look at h
    by_cases e : s = q.1
    · rw [if_pos e] at h; cases h
    · rw [if_neg e] at h
      intro p hp
      rcases List.mem_cons.1 hp with rfl | hp
      · exact fun hh => e hh.symm
      · exact ih h p hp
theorem mem_look {fs : List File} (hn : NodupF fs) {p : File} (h : p ∈ fs) : look fs p.1 = some p.2 := by
  induction fs with
  | nil => cases h
  | cons q r ih =>
    unfold NodupF at hn
    simp only [List.map_cons, List.nodup_cons] at hn
    unfold look
    rcases List.mem_cons.1 h with rfl | h
    · rw [if_pos rfl]
    · rw [if_neg (fun e => hn.1 (by rw [← e]; exact List.mem_map_of_mem h))]
      exact ih hn.2 h
theorem sumL_le {fs : List File} {p : File} (h : p ∈ fs) : p.2.length ≤ sumL fs := by
  induction fs with
  | nil => cases h
  | cons q r ih =>
    unfold sumL
    rcases List.mem_cons.1 h with rfl | h
    · omega
    · have := ih h; omega
theorem rem_none (left : Lit → Bool) (fs : List File) (h : ∀ kl, left kl = false) : rem left fs = 0 := by
  induction fs with
  | nil => rfl
  | cons q r ih => unfold rem; rw [h, ih]; rfl
theorem rem_all (left : Lit → Bool) (fs : List File) (h : ∀ p ∈ fs, left (keyL p.1) = true) : rem left fs = sumL fs := by
  induction fs with
  | nil => rfl
  | cons q r ih => unfold rem sumL; rw [h q List.mem_cons_self, ih fun p hp => h p (List.mem_cons_of_mem _ hp)]; rfl
theorem rem_le (left : Lit → Bool) (fs : List File) : rem left fs ≤ sumL fs := by
  induction fs with
  | nil => exact Nat.le_refl _
  | cons q r ih => unfold rem sumL; split <;> omega
theorem same_self (s : ByteArray) : (keyL s).sameKey (keyL s) = true := by simp [keyL, Lit.sameKey]
theorem rem_same (left : Lit → Bool) (x : ByteArray) (fs : List File) (h : ∀ p ∈ fs, p.1 ≠ x) : rem (fun z => left z && !z.sameKey (keyL x)) fs = rem left fs := by
  induction fs with
  | nil => rfl
  | cons q r ih =>
    unfold rem
    rw [ih fun p hp => h p (List.mem_cons_of_mem _ hp), Maps.sameKey_ne (fun e => h q List.mem_cons_self (keyL_inj e))]
    simp
theorem rem_step (left : Lit → Bool) (fs : List File) (hn : NodupF fs) (p : File) (hp : p ∈ fs) (hl : left (keyL p.1) = true) : rem left fs = p.2.length + rem (fun z => left z && !z.sameKey (keyL p.1)) fs := by
  induction fs with
  | nil => cases hp
  | cons q r ih =>
    unfold NodupF at hn
    simp only [List.map_cons, List.nodup_cons] at hn
    unfold rem
    rcases List.mem_cons.1 hp with rfl | hp
    · rw [rem_same left p.1 r (fun y hy e => hn.1 (by rw [← e]; exact List.mem_map_of_mem hy)), hl, same_self]
      simp
    · rw [ih hn.2 hp, Maps.sameKey_ne (fun e => hn.1 (by rw [keyL_inj e]; exact List.mem_map_of_mem hp))]
      simp
      omega
end Go.Proofs.Yticpldjcmhpjoaa

namespace Go.Proofs.Yticpldjcmhpjoaa
open Go.RowKit
set_option linter.unusedVariables false
set_option linter.unusedSimpArgs false

set_option maxRecDepth 20000 in
theorem used_any {P : Nat → Prop} (fb mb n : Nat) (fs : List File) (w : World) (h2 : w.cell? ⟨fb, 2, none⟩ = some (.map (some mb))) (hF : FilesV P w mb n (look fs)) (hnd : NodupF fs) (ht : sumL fs ≤ 1073741824) :
    Calls Try.prog 20 #[.pointer (some ⟨fb, 0, none⟩)] w (OnlyP (.int .i64 (sumL fs : Int)) w) := by
  obtain ⟨f, ⟨D, hown, htd, hD⟩, hg⟩ := hF
  have HEN := Lib.hid (show ∀ (kl : Lit) (c : Value) (x : ByteArray), keyOf Try.prog 9 (.string x) = some kl → (∀ zd, D.atKey kl zd = .held c) → ∃ (a : Option Addr) (b : List UInt8) (cp : Nat), c = .slice a b.length cp ∧ kl = keyL x ∧ (x, b) ∈ fs from by
    intro kl c x hk hat
    obtain ⟨s, hs, rfl, _⟩ := WideMaps.string_of_keyOf Try.underlying9 hk
    injection hs with hs
    subst hs
    have hh := Maps.has_true_of_atKey hat
    obtain ⟨e1, e2⟩ := hD x
    unfold keyL at e1 e2
    rw [hh] at e2
    rw [hat] at e1
    cases hf : f x with
    | none => rw [hf] at e2; cases e2
    | some v =>
      rw [hf] at e1
      injection e1 with e1
      simp only [Option.getD_some] at e1
      subst e1
      cases hl : look fs x with
      | none => rw [(hg x).1 hl] at hf; cases hf
      | some b =>
        obtain ⟨v', h3, h4⟩ := (hg x).2 b hl
        rw [hf] at h3
        injection h3 with h3
        subst h3
        obtain ⟨a, cp, rfl⟩ := h4.shape
        exact ⟨a, b, cp, rfl, rfl, look_mem hl⟩)
  have H0 := Lib.hid (show rem (Maps.has D) fs = sumL fs from rem_all _ _ (fun p hp => by
    have e := (hD p.1).2
    cases hf : f p.1 with
    | none =>
      obtain ⟨v, h3, _⟩ := (hg p.1).2 p.2 (mem_look hnd hp)
      rw [hf] at h3; cases h3
    | some v => rw [e, hf]; rfl))
  have HND := Lib.hid hnd
  obtain ⟨T, hT⟩ : ∃ T, T = sumL fs := ⟨_, rfl⟩
  rw [← hT] at ht H0 ⊢
  have HT := Lib.hid hT
  clear hD htd hg hnd hT
  go_enter Try.func20, Try.ntmps20
  go_wp2_with (first
    | (at_range; refine wpList_range_own _ rfl _ 56 rfl 9 22 keyed9 Try.underlying56 rawE mb n D rfl hown ?_; intro w0 hrg0 hg0 hs0)
    | go_in)
  go_frame
  have HW0 := Lib.hid (show Below w.heap.size w w0 from ⟨hg0.os, hg0.tape, hg0.output, hg0.size, fun k hk => hg0.block k hk (by simp)⟩)
  clear hg0 hs0
  go_loopw [3] (fun n1 wr => ∃ (left : Lit → Bool) (cnt m : Nat), wr.ranges Try.prog 9 rawE mb w.heap.size n D left cnt ∧ n1 = .int .i64 (m : Int) ∧ Hid (m + rem left fs = T) ∧ Hid (Below w.heap.size w wr))
    (fun _ wr => wr.rangeLeft mb w.heap.size)
  case atStart => exact ⟨_, _, 0, hrg0, rfl, Lib.hid (by rw [H0.out]; omega), HW0⟩
  case round =>
    obtain ⟨left, cnt, m, hrg, rfl, HM, HB⟩ := hrel
    go_wp2_with (first
      | (at_next; refine wpList_next_ranges (α := ByteArray) (β := Value) _ rfl _ rfl 9 keyed9 rawE Value.string id (fun key kl hk => by obtain ⟨s, h, _⟩ := WideMaps.string_of_keyOf Try.underlying9 hk; exact ⟨s, h⟩) (fun v y _ => ⟨v, rfl⟩) mb w.heap.size n _ _ _ rfl hrg ?_ ?_)
      | go_in)
    · intro hc0 hl0
      have hm : m = T := by
        have := HM.out
        rw [rem_none _ _ hl0] at this
        omega
      subst hm
      go_wp2
      go_ret
      exact ⟨rfl, HB.out⟩
    · intro x c kl y ps w1 cnt1 hkey hlk hv hat hrg1 hlt hg1 hs1 hen
      have hv' : y = DataW.held c := by
        unfold rawE at hv
        injection hv with hv
        injection hv with hv _
        exact hv.symm
      subst hv'
      obtain ⟨a, b, cp, rfl, rfl, hmem⟩ := HEN.out kl c x hkey hat
      obtain ⟨bl, hbl⟩ : ∃ bl, bl = b.length := ⟨_, rfl⟩
      have hst := rem_step left fs HND.out (x, b) hmem hlk
      have HST := Lib.hid hst
      have HB1 := Lib.hid (show Below w.heap.size w w1 from ⟨hg1.os.trans HB.out.os, hg1.tape.trans HB.out.tape, hg1.output.trans HB.out.output, Nat.le_trans HB.out.size hg1.size, fun k hk => (hg1.block k (by have := HB.out.size; omega) (by simp; omega)).trans (HB.out.block k hk)⟩)
      have HBL := Lib.hid hbl
      have hm9 : m + bl ≤ 1073741824 := by have := HM.out; have := HST.out; simp only at this; omega
      try simp only [id] at hen
      rw [← hbl] at hen
      have HRG1 := Lib.hid hrg1
      have HRG := Lib.hid hrg
      have HLT := Lib.hid hlt
      clear hkey hat hrg1 hlt hg1 hs1 hst hbl hmem hv hlk
      go_wp2
      go_roundw
      case rel => exact ⟨_, cnt1, m + bl, HRG1.out, by go_num, Lib.hid (by have := HM.out; have h9 := HST.out; have := HBL.out; simp only at h9; omega), HB1⟩
      case measure => rw [HRG1.out.left_eq, HRG.out.left_eq]; exact HLT.out
end Go.Proofs.Yticpldjcmhpjoaa

namespace Go.Proofs.Yticpldjcmhpjoaa
open Go.RowKit
set_option linter.unusedVariables false
set_option linter.unusedSimpArgs false

/-- pv is a slice of the parts ls -/
def PartsIn (w : World) (pv : Value) (ls : List (List UInt8)) : Prop :=
  ∃ a c, pv = .slice a ls.length c ∧ (0 < ls.length → ls.length ≤ c ∧ ∃ b o vs, a = some ⟨b, o, none⟩ ∧ Lib.PartsAt w ⟨b, o, none⟩ vs ls)
theorem holds_grow {w w' : World} {v : Value} {l : List UInt8} (h : Lib.HoldsBytes w v l) (hg : Grow w w') : Lib.HoldsBytes w' v l := by
  obtain ⟨p, cap, h1, h2, h3⟩ := h
  exact ⟨p, cap, h1, h2, fun a ha i x hx => by
    have := h3 a ha i x hx
    exact (Below.cell hg (lt_of_cell this)).trans this⟩
theorem PartsIn.grow {w w' : World} {pv : Value} {ls : List (List UInt8)} (h : PartsIn w pv ls) (hg : Grow w w') : PartsIn w' pv ls := by
  obtain ⟨a, c, h1, h2⟩ := h
  refine ⟨a, c, h1, fun h0 => ?_⟩
  obtain ⟨h3, b, o, vs, h4, h5, h6, h7⟩ := h2 h0
  exact ⟨h3, b, o, vs, h4, h5, fun i v hv => by
    have := h6 i v hv
    exact (Below.cell hg (lt_of_cell this)).trans this, fun i v l hv hl => holds_grow (h7 i v l hv hl) hg⟩
theorem fresh_bytes {B : Nat} {w : World} {v : Value} {l : List UInt8} (h : Lib.FreshBytes B w v l) : BytesIn (fun k => B ≤ k) w v l := by
  obtain ⟨g, cap, zs, rfl, hB, hl, _, hz, hr, hb, hc, _⟩ := h
  refine .inr ⟨g, cap, rfl, fun i x hx => ?_, fun _ => hB, hl⟩
  have hi : i < l.length := (List.getElem?_eq_some_iff.1 hx).1
  rw [hc i (by omega)]
  have hzi : i < zs.length := by omega
  have e : (Lib.bytesOf (zs.take l.length))[i]? = some x := by rw [hb]; exact hx
  unfold Lib.bytesOf at e
  simp only [List.getElem?_map, List.getElem?_take, if_pos hi, List.getElem?_eq_getElem hzi, Option.map_some] at e
  injection e with e
  have h9 := hr zs[i] (List.getElem_mem hzi)
  have hg : zs.getD i 0 = zs[i] := by simp [List.getD, List.getElem?_eq_getElem hzi]
  rw [hg]
  congr 2
  rw [← e]
  simp
  omega
theorem lens_flat (ls : List (List UInt8)) : Lib.lens ls = ls.flatten.length := by
  induction ls with
  | nil => rfl
  | cons l r ih => rw [Lib.lens_cons, ih]; simp
theorem join_flat (ls : List (List UInt8)) : Lib.join ls [] = ls.flatten := by
  cases ls with
  | nil => rfl
  | cons x r => rw [Lib.join_cons]; simp [Lib.joinTail]
theorem join_any (pv : Value) (ls : List (List UInt8)) (w : World) (h : PartsIn w pv ls) (hn : ls.length ≤ 1000000) (hl : ls.flatten.length ≤ 140737488355328) :
    Calls Try.prog 32 #[pv, .slice none 0 0] w fun e w' => ∃ v', e = .returned v' ∧ BytesIn (fun k => w.heap.size ≤ k) w' v' ls.flatten ∧ Grow w w' := by
  obtain ⟨a, c, rfl, h2⟩ := h
  match hls : ls with
  | [] =>
    refine (Try.bytes_Join_none a c (.slice none 0 0) w).mono ?_
    rintro e w' ⟨rfl, rfl⟩
    exact ⟨_, rfl, .inr ⟨w.heap.size, 0, rfl, fun i x hx => by simp at hx, fun h => absurd rfl h, Nat.le_refl _⟩, (Grow.refl w).alloc _⟩
  | [l0] =>
    obtain ⟨hc, b, o, vs, rfl, hP⟩ := h2 (by simp)
    obtain ⟨p, cap, l, h3, h4, h5, h6⟩ := hP.get 0 (by simp)
    simp at h3
    subst h3
    rw [add_plain, Nat.add_zero] at h4
    cases l0 with
    | nil =>
      refine (Try.bytes_Join_one_empty b o c p cap (.slice none 0 0) w h4).mono ?_
      rintro e w' ⟨rfl, rfl⟩
      exact ⟨_, rfl, .inl ⟨rfl, rfl⟩, Grow.refl _⟩
    | cons x r =>
      cases p with
      | none => exact absurd (h5 rfl) (by simp)
      | some ad =>
        refine (Try.bytes_Join_one b o c ad cap (x :: r) (.slice none 0 0) w h4 (h6 ad rfl) (by simp) (by simpa using hl)).mono ?_
        rintro e w' ⟨v', rfl, h7, h8⟩
        exact ⟨v', rfl, by simpa using fresh_bytes h7, h8⟩
  | l0 :: l1 :: r =>
    obtain ⟨hc, b, o, vs, rfl, hP⟩ := h2 (by simp)
    refine (Try.bytes_Join_many b o _ c vs (l0 :: l1 :: r) (.slice none 0 0) [] w rfl (by simp) hP hc ⟨none, 0, rfl, fun _ => rfl, fun a h => (by cases h)⟩ (by omega) (by rw [lens_flat]; simpa using hl)).mono ?_
    rintro e w' ⟨v', rfl, h7, h8⟩
    rw [join_flat] at h7
    exact ⟨v', rfl, fresh_bytes h7, h8⟩
end Go.Proofs.Yticpldjcmhpjoaa
