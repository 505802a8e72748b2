/-
  bytes.Join of parts that came in.
-/
import Derived.Test.YticpldjcmhpjoaaV15
namespace Go.Proofs.Yticpldjcmhpjoaa
open Go.RowKit
set_option linter.unusedVariables false
set_option linter.unusedSimpArgs false

/-- pv is a slice of the parts ls -/
def PartsIn (w : World) (pv : Value) (ls : List (List UInt8)) : Prop :=
  ∃ a c, pv = .slice a ls.length c ∧ (0 < ls.length → ls.length ≤ c ∧ ∃ b o vs, a = some ⟨b, o, none⟩ ∧ Lib.PartsAt w ⟨b, o, none⟩ vs ls)
theorem holds_grow {w w' : World} {v : Value} {l : List UInt8} (h : Lib.HoldsBytes w v l) (hg : Grow w w') : Lib.HoldsBytes w' v l := by
  obtain ⟨p, cap, h1, h2, h3⟩ := h
  exact ⟨p, cap, h1, h2, fun a ha i x hx => by
    have := h3 a ha i x hx
    exact (Below.cell hg (lt_of_cell this)).trans this⟩
theorem PartsIn.grow {w w' : World} {pv : Value} {ls : List (List UInt8)} (h : PartsIn w pv ls) (hg : Grow w w') : PartsIn w' pv ls := by
  obtain ⟨a, c, h1, h2⟩ := h
  refine ⟨a, c, h1, fun h0 => ?_⟩
  obtain ⟨h3, b, o, vs, h4, h5, h6, h7⟩ := h2 h0
  exact ⟨h3, b, o, vs, h4, h5, fun i v hv => by
    have := h6 i v hv
    exact (Below.cell hg (lt_of_cell this)).trans this, fun i v l hv hl => holds_grow (h7 i v l hv hl) hg⟩
theorem fresh_bytes {B : Nat} {w : World} {v : Value} {l : List UInt8} (h : Lib.FreshBytes B w v l) : BytesIn (fun k => B ≤ k) w v l := by
  obtain ⟨g, cap, zs, rfl, hB, hl, _, hz, hr, hb, hc, _⟩ := h
  refine .inr ⟨g, cap, rfl, fun i x hx => ?_, fun _ => hB, hl⟩
  have hi : i < l.length := (List.getElem?_eq_some_iff.1 hx).1
  rw [hc i (by omega)]
  have hzi : i < zs.length := by omega
  have e : (Lib.bytesOf (zs.take l.length))[i]? = some x := by rw [hb]; exact hx
  unfold Lib.bytesOf at e
  simp only [List.getElem?_map, List.getElem?_take, if_pos hi, List.getElem?_eq_getElem hzi, Option.map_some] at e
  injection e with e
  have h9 := hr zs[i] (List.getElem_mem hzi)
  have hg : zs.getD i 0 = zs[i] := by simp [List.getD, List.getElem?_eq_getElem hzi]
  rw [hg]
  congr 2
  rw [← e]
  simp
  omega
theorem lens_flat (ls : List (List UInt8)) : Lib.lens ls = ls.flatten.length := by
  induction ls with
  | nil => rfl
  | cons l r ih => rw [Lib.lens_cons, ih]; simp
theorem join_flat (ls : List (List UInt8)) : Lib.join ls [] = ls.flatten := by
  cases ls with
  | nil => rfl
  | cons x r => rw [Lib.join_cons]; simp [Lib.joinTail]
theorem join_any (pv : Value) (ls : List (List UInt8)) (w : World) (h : PartsIn w pv ls) (hn : ls.length ≤ 1000000) (hl : ls.flatten.length ≤ 140737488355328) :
    Calls Try.prog 32 #[pv, .slice none 0 0] w fun e w' => ∃ v', e = .returned v' ∧ BytesIn (fun k => w.heap.size ≤ k) w' v' ls.flatten ∧ Grow w w' := by
  obtain ⟨a, c, rfl, h2⟩ := h
  match hls : ls with
  | [] =>
    refine (Try.bytes_Join_none a c (.slice none 0 0) w).mono ?_
    rintro e w' ⟨rfl, rfl⟩
    exact ⟨_, rfl, .inr ⟨w.heap.size, 0, rfl, fun i x hx => by simp at hx, fun h => absurd rfl h, Nat.le_refl _⟩, (Grow.refl w).alloc _⟩
  | [l0] =>
    obtain ⟨hc, b, o, vs, rfl, hP⟩ := h2 (by simp)
    obtain ⟨p, cap, l, h3, h4, h5, h6⟩ := hP.get 0 (by simp)
    simp at h3
    subst h3
    rw [add_plain, Nat.add_zero] at h4
    cases l0 with
    | nil =>
      refine (Try.bytes_Join_one_empty b o c p cap (.slice none 0 0) w h4).mono ?_
      rintro e w' ⟨rfl, rfl⟩
      exact ⟨_, rfl, .inl ⟨rfl, rfl⟩, Grow.refl _⟩
    | cons x r =>
      cases p with
      | none => exact absurd (h5 rfl) (by simp)
      | some ad =>
        refine (Try.bytes_Join_one b o c ad cap (x :: r) (.slice none 0 0) w h4 (h6 ad rfl) (by simp) (by simpa using hl)).mono ?_
        rintro e w' ⟨v', rfl, h7, h8⟩
        exact ⟨v', rfl, by simpa using fresh_bytes h7, h8⟩
  | l0 :: l1 :: r =>
    obtain ⟨hc, b, o, vs, rfl, hP⟩ := h2 (by simp)
    refine (Try.bytes_Join_many b o _ c vs (l0 :: l1 :: r) (.slice none 0 0) [] w rfl (by simp) hP hc ⟨none, 0, rfl, fun _ => rfl, fun a h => nomatch h⟩ (by omega) (by rw [lens_flat]; simpa using hl)).mono ?_
    rintro e w' ⟨v', rfl, h7, h8⟩
    rw [join_flat] at h7
    exact ⟨v', rfl, fresh_bytes h7, h8⟩
end Go.Proofs.Yticpldjcmhpjoaa
