/-
  Plain facts about adds; step and Find as plain functions.
-/
import Derived.Test.YtldcbkememonaaaE4
import Derived.Test.YtldcbkememonaaaF1
namespace Go.Proofs.Ytldcbkememonaaa
open Go.RowKit
set_option linter.unusedVariables false
set_option linter.unusedSimpArgs false

/-- what an instruction puts ahead of the rest -/
def pushT (i : Ins) (x : Way) (tl place : Nat) : List Way :=
  if i.op = 1 ∨ i.op = 7 then [] else if i.op = 2 then [⟨x.ps, i.x⟩, ⟨x.ps, i.y⟩] else if i.op = 3 then [⟨x.ps, i.x⟩] else if i.op = 4 then [⟨withF x.ps i.x place, x.at_ + 1⟩]
  else if i.op = 5 then (if place = 0 then [⟨x.ps, x.at_ + 1⟩] else []) else if i.op = 6 then (if place = tl then [⟨x.ps, x.at_ + 1⟩] else []) else []
theorem addsF_eq (L : List Ins) (tl place f : Nat) (x : Way) (rest ws : List Way) (S : List Int) : addsF L tl place (f + 1) (x :: rest) ws S =
    if x.at_ < 0 ∨ (L.length : Int) ≤ x.at_ ∨ S.contains x.at_ = true then addsF L tl place f rest ws S
    else match L[x.at_.toNat]? with
      | none => none
      | some i => addsF L tl place f (pushT i x tl place ++ rest) (if i.op = 1 ∨ i.op = 7 then ws ++ [x] else ws) (x.at_ :: S) := by
  conv => lhs; unfold addsF
  split
  · rfl
  · cases hL : L[x.at_.toNat]? with
    | none => rfl
    | some i =>
      simp only [pushT]
      by_cases h1 : i.op = 1 ∨ i.op = 7
      · rw [if_pos h1, if_pos h1, if_pos h1]; rfl
      · rw [if_neg h1, if_neg h1, if_neg h1]
        by_cases h2 : i.op = 2
        · rw [if_pos h2, if_pos h2]; rfl
        · rw [if_neg h2, if_neg h2]
          by_cases h3 : i.op = 3
          · rw [if_pos h3, if_pos h3]; rfl
          · rw [if_neg h3, if_neg h3]
            by_cases h4 : i.op = 4
            · rw [if_pos h4, if_pos h4]; rfl
            · rw [if_neg h4, if_neg h4]
              by_cases h5 : i.op = 5
              · rw [if_pos h5, if_pos h5]; split <;> rfl
              · rw [if_neg h5, if_neg h5]
                by_cases h6 : i.op = 6
                · rw [if_pos h6, if_pos h6]; split <;> rfl
                · rw [if_neg h6, if_neg h6]; rfl
theorem pushT_len (i : Ins) (x : Way) (tl place : Nat) : (pushT i x tl place).length ≤ 2 := by
  unfold pushT
  repeat' split
  all_goals simp
theorem pushT_ps (i : Ins) (x : Way) (tl place : Nat) : ∀ y ∈ pushT i x tl place, y.ps.length = x.ps.length := by
  intro y hy
  unfold pushT at hy
  repeat' split at hy
  all_goals simp at hy
  all_goals first
    | (rcases hy with rfl | rfl <;> rfl)
    | (subst hy; first | rfl | exact withF_len _ _ _)
/-- numbers below n, each once -/
structure SOk (n : Nat) (S : List Int) : Prop where
  nd : S.Nodup
  rg : ∀ x ∈ S, 0 ≤ x ∧ x < (n : Int)
theorem nodup_len (n : Nat) : ∀ S : List Int, S.Nodup → (∀ x ∈ S, 0 ≤ x ∧ x < (n : Int)) → S.length ≤ n := by
  induction n with
  | zero =>
    intro S _ h
    cases S with
    | nil => simp
    | cons a S => have := h a (by simp); omega
  | succ n ih =>
    intro S hd h
    have h1 := ih (S.erase (n : Int)) (hd.erase _) (fun x hx => by
      have h2 := h x (List.mem_of_mem_erase hx)
      have h3 : x ≠ (n : Int) := ((List.Nodup.mem_erase_iff hd).1 hx).1
      omega)
    have h4 : S.length ≤ (S.erase (n : Int)).length + 1 := by
      rw [List.length_erase]
      split <;> omega
    omega
theorem SOk.len {n : Nat} {S : List Int} (h : SOk n S) : S.length ≤ n := nodup_len n S h.nd h.rg
/-- the state of 'adds' is fit -/
structure AOk (L : List Ins) (m : Nat) (ws : List Way) (S : List Int) : Prop where
  so : SOk L.length S
  wy : ∀ y ∈ ws, 0 ≤ y.at_ ∧ y.at_ < (L.length : Int) ∧ y.ps.length = m
  le : ws.length ≤ S.length
theorem AOk.nil (L : List Ins) (m : Nat) : AOk L m [] [] := ⟨⟨List.nodup_nil, by simp⟩, by simp, by simp⟩
theorem AOk.step {L : List Ins} {m : Nat} {ws : List Way} {S : List Int} {x : Way} (h : AOk L m ws S) (hx : ¬ (x.at_ < 0 ∨ (L.length : Int) ≤ x.at_ ∨ S.contains x.at_ = true)) (hm : x.ps.length = m) (p : Prop) [Decidable p] :
    AOk L m (if p then ws ++ [x] else ws) (x.at_ :: S) := by
  have h1 : ¬ x.at_ < 0 := fun e => hx (.inl e)
  have h2 : ¬ (L.length : Int) ≤ x.at_ := fun e => hx (.inr (.inl e))
  have h3 : ¬ x.at_ ∈ S := fun e => hx (.inr (.inr (by simpa using e)))
  refine ⟨⟨List.nodup_cons.2 ⟨h3, h.so.nd⟩, fun y hy => ?_⟩, fun y hy => ?_, ?_⟩
  · rcases List.mem_cons.1 hy with rfl | hy
    · omega
    · exact h.so.rg y hy
  · split at hy
    · rcases List.mem_append.1 hy with hy | hy
      · exact h.wy y hy
      · simp at hy; subst hy; exact ⟨by omega, by omega, hm⟩
    · exact h.wy y hy
  · have := h.le
    split
    · simp; omega
    · simp; omega
theorem addsF_ok (L : List Ins) (tl place m : Nat) : ∀ (f : Nat) (todo ws : List Way) (S : List Int) (R : List Way × List Int), addsF L tl place f todo ws S = some R → AOk L m ws S → (∀ y ∈ todo, y.ps.length = m) → AOk L m R.1 R.2
  | 0, todo, ws, S, R, h, hA, ht => by
    unfold addsF at h
    split at h
    · injection h with h; subst h; exact hA
    · cases h
  | f + 1, [], ws, S, R, h, hA, ht => by
    unfold addsF at h
    injection h with h; subst h; exact hA
  | f + 1, x :: rest, ws, S, R, h, hA, ht => by
    rw [addsF_eq] at h
    split at h
    · exact addsF_ok L tl place m f rest ws S R h hA (fun y hy => ht y (by simp [hy]))
    · rename_i hx
      split at h
      · cases h
      · refine addsF_ok L tl place m f _ _ _ R h (hA.step hx (ht x (by simp)) _) (fun y hy => ?_)
        rcases List.mem_append.1 hy with hy | hy
        · rw [pushT_ps _ _ _ _ y hy]; exact ht x (by simp)
        · exact ht y (by simp [hy])
theorem addsF_total (L : List Ins) (tl place m : Nat) : ∀ (f : Nat) (todo ws : List Way) (S : List Int), AOk L m ws S → (∀ y ∈ todo, y.ps.length = m) → todo.length + 2 * (L.length - S.length) ≤ f → ∃ R, addsF L tl place f todo ws S = some R
  | 0, todo, ws, S, hA, ht, hf => by
    have : todo = [] := List.eq_nil_of_length_eq_zero (by omega)
    subst this
    exact ⟨_, rfl⟩
  | f + 1, [], ws, S, hA, ht, hf => ⟨_, rfl⟩
  | f + 1, x :: rest, ws, S, hA, ht, hf => by
    rw [addsF_eq]
    simp only [List.length_cons] at hf
    split
    · exact addsF_total L tl place m f rest ws S hA (fun y hy => ht y (by simp [hy])) (by omega)
    · rename_i hx
      have h1 : ¬ x.at_ < 0 := fun e => hx (.inl e)
      have h2 : ¬ (L.length : Int) ≤ x.at_ := fun e => hx (.inr (.inl e))
      have hl : x.at_.toNat < L.length := by omega
      rw [List.getElem?_eq_getElem hl]
      have hN := hA.step hx (ht x (by simp)) (L[x.at_.toNat].op = 1 ∨ L[x.at_.toNat].op = 7)
      refine addsF_total L tl place m f _ _ _ hN (fun y hy => ?_) ?_
      · rcases List.mem_append.1 hy with hy | hy
        · rw [pushT_ps _ _ _ _ y hy]; exact ht x (by simp)
        · exact ht y (by simp [hy])
      · have h3 := pushT_len L[x.at_.toNat] x tl place
        have h4 := hN.so.len
        simp only [List.length_cons, List.length_append] at h4 ⊢
        omega
/-- rounds enough -/
def fuelA (L : List Ins) : Nat := 2 * L.length + 1
theorem addsF_one (L : List Ins) (tl place m : Nat) (x : Way) (ws : List Way) (S : List Int) (hA : AOk L m ws S) (hx : x.ps.length = m) : ∃ R, addsF L tl place (fuelA L) [x] ws S = some R ∧ AOk L m R.1 R.2 := by
  have ht : ∀ y ∈ [x], y.ps.length = m := fun y hy => by simp at hy; subst hy; exact hx
  obtain ⟨R, hR⟩ := addsF_total L tl place m (fuelA L) [x] ws S hA ht (by unfold fuelA; simp; omega)
  exact ⟨R, hR, addsF_ok L tl place m _ _ _ _ R hR hA ht⟩
/-- the ways behind a byte -/
def stepF (L : List Ins) (tx : ByteArray) (place : Nat) : List Way → List Way → List Int → Option (List Way × List Int × Option (List Int))
  | [], ws, S => some (ws, S, none)
  | x :: rest, ws, S => match L[x.at_.toNat]? with
    | none => none
    | some i =>
      if i.op = 7 then some (ws, S, some x.ps)
      else if place < tx.size ∧ hasF i.ps (by_ tx place) = true then
        match addsF L tx.size (place + 1) (fuelA L) [⟨x.ps, x.at_ + 1⟩] ws S with
        | none => none
        | some r => stepF L tx place rest r.1 r.2
      else stepF L tx place rest ws S
/-- Find's loop: so many places are left -/
def findG (L : List Ins) (tx : ByteArray) (nw : List Int) : Nat → List Way → List Int → Option (List Int) → Option (Option (List Int))
  | 0, _, _, fd => some fd
  | k + 1, ws, S, fd =>
    match (if fd.isNone then addsF L tx.size (tx.size - k) (fuelA L) [⟨nw, 0⟩] ws S else some (ws, S)) with
    | none => none
    | some (ws1, S1) =>
      if ws1.isEmpty && fd.isSome then some fd
      else match stepF L tx (tx.size - k) ws1 [] [] with
        | none => none
        | some (ws2, S2, mt) => findG L tx nw k ws2 S2 (if mt.isSome then mt else fd)
/-- pike.Find -/
def findF (gr : Int) (L : List Ins) (tx : ByteArray) (from_ : Int) : Option (Option (List Int)) :=
  if from_ < 0 ∨ (tx.size : Int) < from_ ∨ gr < 0 ∨ 1024 < gr then some none
  else findG L tx (List.replicate (2 * gr.toNat + 2) (-1)) (tx.size + 1 - from_.toNat) [] [] none
end Go.Proofs.Ytldcbkememonaaa
