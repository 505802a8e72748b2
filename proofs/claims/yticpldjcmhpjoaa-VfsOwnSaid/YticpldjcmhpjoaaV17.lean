/-
  The plain state: files in the document's order, changes that are pending.
-/
import Derived.Test.YticpldjcmhpjoaaV16
namespace Go.Proofs.Yticpldjcmhpjoaa
open Go.RowKit
set_option linter.unusedVariables false
set_option linter.unusedSimpArgs false

structure Doc where
  room : Nat
  now : List File
  was : List File
  l : List Chg
/-- files behind a change, as the document says -/
def doesL (fs : List File) (c : Chg) : List File :=
  if c.kind = 0 then fs ++ [(c.name, c.data)] else if c.kind = 1 then fs.map fun p => if p.1 = c.name then (p.1, over p.2 c.at_ c.data) else p else fs.filter fun p => !decide (p.1 = c.name)
def Doc.fs (D : Doc) : Fs := ⟨D.room, look D.now, look D.was, D.l⟩
/-- a change that may be done, and is not great -/
structure OkC (fs : List File) (c : Chg) : Prop where
  name : isB c.name = true
  data : c.data.length ≤ 1073741824
  kind : (c.kind = 0 ∧ look fs c.name = none) ∨ (c.kind = 1 ∧ ∃ b, look fs c.name = some b ∧ c.at_ + c.data.length ≤ b.length) ∨ (c.kind = 2 ∧ ∃ b, look fs c.name = some b)
structure OkF (room : Nat) (fs : List File) : Prop where
  nodup : NodupF fs
  sum : sumL fs ≤ room
  name : ∀ p ∈ fs, isB p.1 = true
/-- changes that lead from files to files -/
inductive Runs (room : Nat) : List File → List Chg → List File → Prop
  | nil (fs : List File) : OkF room fs → Runs room fs [] fs
  | cons (fs : List File) (c : Chg) (l : List Chg) (now : List File) : OkF room fs → OkC fs c → Runs room (doesL fs c) l now → Runs room fs (c :: l) now
structure Good (D : Doc) : Prop where
  runs : Runs D.room D.was D.l D.now
  room : D.room ≤ 1073741824
theorem Runs.last {room : Nat} {was now : List File} {l : List Chg} (h : Runs room was l now) : OkF room now := by
  induction h with
  | nil fs h => exact h
  | cons fs c l now h1 h2 _ ih => exact ih
theorem Runs.first {room : Nat} {was now : List File} {l : List Chg} (h : Runs room was l now) : OkF room was := by
  cases h <;> assumption
theorem Runs.snoc {room : Nat} {was now : List File} {l : List Chg} (h : Runs room was l now) (c : Chg) (hc : OkC now c) (hf : OkF room (doesL now c)) : Runs room was (l ++ [c]) (doesL now c) := by
  induction h with
  | nil fs h => exact .cons fs c [] _ h hc (.nil _ hf)
  | cons fs c' l now h1 h2 _ ih => exact .cons fs c' _ _ h1 h2 (ih hc hf)
theorem OkC.valid {fs : List File} {c : Chg} (h : OkC fs c) : Valid (look fs) c := by
  rcases h.kind with ⟨h, _⟩ | ⟨h, b, h1, h2⟩ | ⟨h, _⟩
  · exact .inl h
  · exact .inr (.inl ⟨h, b, h1, h2⟩)
  · exact .inr (.inr h)
theorem OkF.small {room : Nat} {fs : List File} (h : OkF room fs) (hr : room ≤ 1073741824) : Small (look fs) := fun s b hb => by
  have h1 := sumL_le (look_mem hb)
  have h2 := h.sum
  simp only at h1
  omega
theorem look_snoc (fs : List File) (s t : ByteArray) (b : List UInt8) : look (fs ++ [(s, b)]) t = match look fs t with | some x => some x | none => if t = s then some b else none := by
  induction fs with
  | nil => simp only [List.nil_append, look]
  | cons p r ih =>
    simp only [List.cons_append, look, ih]
    by_cases e : t = p.1
    · simp [e]
    · simp [e]
theorem look_map (fs : List File) (s t : ByteArray) (k : List UInt8 → List UInt8) : look (fs.map fun p => if p.1 = s then (p.1, k p.2) else p) t = if t = s then (look fs t).map k else look fs t := by
  induction fs with
  | nil => simp [look]
  | cons p r ih =>
    simp only [List.map_cons, look, ih]
    by_cases e : p.1 = s
    · simp only [if_pos e]
      by_cases e2 : t = p.1
      · simp [e2, e]
      · simp [e2]
    · simp only [if_neg e]
      by_cases e2 : t = p.1
      · subst e2
        simp [e]
      · simp [e2]
theorem look_filter (fs : List File) (s t : ByteArray) : look (fs.filter fun p => !decide (p.1 = s)) t = if t = s then none else look fs t := by
  induction fs with
  | nil => simp [look]
  | cons p r ih =>
    by_cases e : p.1 = s
    · rw [List.filter_cons_of_neg (by simp [e]), ih]
      by_cases e2 : t = s
      · simp [e2]
      · rw [if_neg e2, if_neg e2]
        unfold look
        rw [if_neg (fun h => e2 (h.trans e))]
        cases r <;> rfl
    · rw [List.filter_cons_of_pos (by simp [e])]
      simp only [look, ih]
      by_cases e2 : t = p.1
      · subst e2
        simp [e]
      · simp [e2]
theorem look_does {fs : List File} {c : Chg} (h : OkC fs c) : look (doesL fs c) = doesG (look fs) c := by
  funext t
  unfold doesL doesG
  rcases h.kind with ⟨h0, h1⟩ | ⟨h0, b, h1, h2⟩ | ⟨h0, h1⟩
  · simp only [h0, if_true]
    rw [look_snoc]
    by_cases e : t = c.name
    · subst e; rw [h1]
    · rw [if_neg e, if_neg e]
      cases look fs t <;> rfl
  · simp only [h0, show ¬ (1 = 0) from by omega, if_true, if_false]
    rw [look_map fs c.name t (fun b => over b c.at_ c.data)]
    by_cases e : t = c.name
    · subst e; simp
    · simp [e]
  · simp only [h0, show ¬ (2 = 0) from by omega, show ¬ (2 = 1) from by omega, if_false]
    rw [look_filter]
theorem names_map (fs : List File) (s : ByteArray) (k : List UInt8 → List UInt8) : (fs.map fun p => if p.1 = s then (p.1, k p.2) else p).map (·.1) = fs.map (·.1) := by
  rw [List.map_map]
  apply List.map_congr_left
  intro p _
  simp only [Function.comp]
  split <;> rfl
theorem sumL_append (a b : List File) : sumL (a ++ b) = sumL a + sumL b := by
  induction a with
  | nil => simp [sumL]
  | cons p r ih => simp only [List.cons_append, sumL, ih]; omega
theorem sumL_map (fs : List File) (s : ByteArray) (k : List UInt8 → List UInt8) (hk : ∀ p ∈ fs, p.1 = s → (k p.2).length = p.2.length) : sumL (fs.map fun p => if p.1 = s then (p.1, k p.2) else p) = sumL fs := by
  induction fs with
  | nil => rfl
  | cons p r ih =>
    simp only [List.map_cons, sumL, ih fun q hq => hk q (List.mem_cons_of_mem _ hq)]
    by_cases e : p.1 = s
    · rw [if_pos e]; simp only [hk p List.mem_cons_self e]
    · rw [if_neg e]
theorem sumL_filter (fs : List File) (q : File → Bool) : sumL (fs.filter q) ≤ sumL fs := by
  induction fs with
  | nil => exact Nat.le_refl _
  | cons p r ih =>
    rw [List.filter_cons]
    split <;> simp only [sumL] <;> omega
theorem does_ok {room : Nat} {fs : List File} {c : Chg} (hf : OkF room fs) (h : OkC fs c) (hr : c.kind = 0 → sumL fs + c.data.length ≤ room) : OkF room (doesL fs c) := by
  rcases h.kind with ⟨h0, h1⟩ | ⟨h0, b, h1, h2⟩ | ⟨h0, h1⟩
  · unfold doesL
    rw [if_pos h0]
    refine ⟨?_, ?_, fun p hp => ?_⟩
    · unfold NodupF
      rw [List.map_append, List.nodup_append]
      refine ⟨hf.nodup, by simp, ?_⟩
      intro a ha b hb
      obtain ⟨p, hp, rfl⟩ := List.mem_map.1 ha
      simp at hb
      subst hb
      exact look_none h1 p hp
    · rw [sumL_append]; simp only [sumL]; have := hr h0; omega
    · rcases List.mem_append.1 hp with hp | hp
      · exact hf.name p hp
      · simp at hp; subst hp; exact h.name
  · unfold doesL
    rw [if_neg (by omega), if_pos h0]
    refine ⟨?_, ?_, fun p hp => ?_⟩
    · unfold NodupF
      rw [names_map fs c.name (fun b => over b c.at_ c.data)]
      exact hf.nodup
    · rw [sumL_map fs c.name (fun b => over b c.at_ c.data)]
      · exact hf.sum
      · intro p hp e
        have := mem_look hf.nodup hp
        rw [e, h1] at this
        injection this with this
        exact over_len _ _ _ (by rw [← this]; exact h2)
    · obtain ⟨q, hq, rfl⟩ := List.mem_map.1 hp
      have := hf.name q hq
      split <;> exact this
  · unfold doesL
    rw [if_neg (by omega), if_neg (by omega)]
    refine ⟨?_, Nat.le_trans (sumL_filter _ _) hf.sum, fun p hp => hf.name p (List.mem_filter.1 hp).1⟩
    exact hf.nodup.sublist (List.Sublist.map _ List.filter_sublist)
/-- the state behind a change -/
def Doc.did (D : Doc) (c : Chg) : Doc := ⟨D.room, doesL D.now c, D.was, D.l ++ [c]⟩
theorem Good.did {D : Doc} (h : Good D) (c : Chg) (hc : OkC D.now c) (hr : c.kind = 0 → sumL D.now + c.data.length ≤ D.room) : Good (D.did c) :=
  ⟨h.runs.snoc c hc (does_ok h.runs.last hc hr), h.room⟩
theorem fs_did {D : Doc} {c : Chg} (hc : OkC D.now c) : (D.did c).fs = D.fs.did c := by
  unfold Doc.did Doc.fs Fs.did
  simp only
  rw [look_does hc]
end Go.Proofs.Yticpldjcmhpjoaa
