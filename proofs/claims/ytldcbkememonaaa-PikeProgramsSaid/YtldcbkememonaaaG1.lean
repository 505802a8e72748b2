/-
  The plain law of pike: what a list of ways leads to, in layers; seen ways that lead nowhere do not matter.
-/
import Derived.Test.YtldcbkememonaaaF2
namespace Go.Proofs.Ytldcbkememonaaa
open Go.RowKit
set_option linter.unusedVariables false
set_option linter.unusedSimpArgs false

def Bad (L : List Ins) (S : List Int) (x : Way) : Prop := x.at_ < 0 ∨ (L.length : Int) ≤ x.at_ ∨ S.contains x.at_ = true
/-- what ways at a place lead to without a byte -/
inductive Cl (L : List Ins) (tl place : Nat) : List Way → List Int → List Way → List Int → Prop
  | nil (S : List Int) : Cl L tl place [] S [] S
  | skip (x : Way) (rest : List Way) (S : List Int) (o : List Way) (S' : List Int) : Bad L S x → Cl L tl place rest S o S' → Cl L tl place (x :: rest) S o S'
  | go (x : Way) (rest : List Way) (S : List Int) (o : List Way) (S' : List Int) (i : Ins) : ¬ Bad L S x → L[x.at_.toNat]? = some i → Cl L tl place (pushT i x tl place ++ rest) (x.at_ :: S) o S' →
      Cl L tl place (x :: rest) S ((if i.op = 1 ∨ i.op = 7 then [x] else []) ++ o) S'
theorem Cl.of_adds {L : List Ins} {tl place : Nat} : ∀ (f : Nat) (todo ws : List Way) (S : List Int) (R : List Way × List Int), addsF L tl place f todo ws S = some R → ∃ o, R.1 = ws ++ o ∧ Cl L tl place todo S o R.2
  | 0, todo, ws, S, R, h => by
    unfold addsF at h
    split at h
    · rename_i h1
      injection h with h; subst h
      have : todo = [] := by simpa using h1
      subst this
      exact ⟨[], by simp, .nil S⟩
    · cases h
  | f + 1, [], ws, S, R, h => by
    unfold addsF at h
    injection h with h; subst h
    exact ⟨[], by simp, .nil S⟩
  | f + 1, x :: rest, ws, S, R, h => by
    rw [addsF_eq] at h
    split at h
    · rename_i hb
      obtain ⟨o, h1, h2⟩ := Cl.of_adds f rest ws S R h
      exact ⟨o, h1, .skip x rest S o _ hb h2⟩
    · rename_i hb
      split at h
      · cases h
      · rename_i i hi
        obtain ⟨o, h1, h2⟩ := Cl.of_adds f _ _ _ R h
        refine ⟨_, ?_, .go x rest S o _ i hb hi h2⟩
        rw [h1]
        split <;> simp
theorem Cl.det {L : List Ins} {tl place : Nat} {todo : List Way} {S : List Int} {o : List Way} {S' : List Int} (h : Cl L tl place todo S o S') : ∀ {o2 : List Way} {S2 : List Int}, Cl L tl place todo S o2 S2 → o2 = o ∧ S2 = S' := by
  induction h with
  | nil S => intro o2 S2 k; cases k; exact ⟨rfl, rfl⟩
  | skip x rest S o S' hb _ ih =>
    intro o2 S2 k
    cases k with
    | skip _ _ _ _ _ _ k2 => exact ih k2
    | go _ _ _ _ _ _ hb2 _ _ => exact absurd hb hb2
  | go x rest S o S' i hb hi _ ih =>
    intro o2 S2 k
    cases k with
    | skip _ _ _ _ _ hb2 _ => exact absurd hb2 hb
    | go _ _ _ o3 _ i2 _ hi2 k2 =>
      rw [hi] at hi2
      injection hi2 with hi2
      subst hi2
      obtain ⟨h1, h2⟩ := ih k2
      exact ⟨by rw [h1], h2⟩
theorem pushT_at (i : Ins) (x y : Way) (tl place : Nat) (h : x.at_ = y.at_) : (pushT i x tl place).map (·.at_) = (pushT i y tl place).map (·.at_) := by
  unfold pushT
  repeat' split
  all_goals simp [h]
theorem Cl.at {L : List Ins} {tl place : Nat} {todo : List Way} {S : List Int} {o : List Way} {S' : List Int} (h : Cl L tl place todo S o S') : ∀ todo2 : List Way, todo2.map (·.at_) = todo.map (·.at_) → ∃ o2, Cl L tl place todo2 S o2 S' ∧ o2.map (·.at_) = o.map (·.at_) := by
  induction h with
  | nil S =>
    intro t ht
    have : t = [] := by simpa using ht
    subst this
    exact ⟨[], .nil S, rfl⟩
  | skip x rest S o S' hb _ ih =>
    intro t ht
    cases t with
    | nil => simp at ht
    | cons y t =>
      simp only [List.map_cons, List.cons.injEq] at ht
      obtain ⟨o2, h1, h2⟩ := ih t ht.2
      refine ⟨o2, .skip y t S o2 S' ?_ h1, h2⟩
      unfold Bad at hb ⊢
      rw [ht.1]
      exact hb
  | go x rest S o S' i hb hi _ ih =>
    intro t ht
    cases t with
    | nil => simp at ht
    | cons y t =>
      simp only [List.map_cons, List.cons.injEq] at ht
      obtain ⟨o2, h1, h2⟩ := ih (pushT i y tl place ++ t) (by rw [List.map_append, List.map_append, ht.2, pushT_at i y x tl place ht.1])
      refine ⟨_, .go y t S o2 S' i (by unfold Bad at hb ⊢; rw [ht.1]; exact hb) (by rw [ht.1]; exact hi) (by rw [ht.1]; exact h1), ?_⟩
      rw [List.map_append, List.map_append, h2]
      congr 1
      split <;> simp [ht.1]
/-- seen places that lead to seen places only -/
def Closed (L : List Ins) (tl place : Nat) (C : List Int) : Prop := ∀ a ∈ C, ∀ (i : Ins) (ps : List Int), L[a.toNat]? = some i → ∀ y ∈ pushT i ⟨ps, a⟩ tl place, y.at_ < 0 ∨ (L.length : Int) ≤ y.at_ ∨ y.at_ ∈ C
/-- a list without some that do not matter -/
inductive Del (L : List Ins) (C : List Int) : List Way → List Way → Prop
  | nil : Del L C [] []
  | keep (x : Way) (l l2 : List Way) : Del L C l l2 → Del L C (x :: l) (x :: l2)
  | drop (x : Way) (l l2 : List Way) : (x.at_ < 0 ∨ (L.length : Int) ≤ x.at_ ∨ x.at_ ∈ C) → Del L C l l2 → Del L C (x :: l) l2
theorem Del.refl (L : List Ins) (C : List Int) : ∀ l : List Way, Del L C l l
  | [] => .nil
  | x :: l => .keep x l l (Del.refl L C l)
theorem Del.app {L : List Ins} {C : List Int} {l l2 : List Way} (h : Del L C l l2) : ∀ p : List Way, Del L C (p ++ l) (p ++ l2)
  | [] => h
  | x :: p => .keep x _ _ (h.app p)
theorem Del.less {L : List Ins} {C : List Int} {l l2 : List Way} (h : Del L C l l2) : ∀ p : List Way, (∀ x ∈ p, x.at_ < 0 ∨ (L.length : Int) ≤ x.at_ ∨ x.at_ ∈ C) → Del L C (p ++ l) l2
  | [], _ => h
  | x :: p, hp => .drop x _ _ (hp x (by simp)) (h.less p (fun y hy => hp y (by simp [hy])))
theorem Cl.share {L : List Ins} {tl place : Nat} {C : List Int} (hC : Closed L tl place C) {γ : Type} (f : Way → Option γ) (hf : ∀ x : Way, x.at_ ∈ C → f x = none) {todo : List Way} {S : List Int} {o : List Way} {S' : List Int} (h : Cl L tl place todo S o S') :
    ∀ (todo2 : List Way) (T : List Int), Del L C todo todo2 → (∀ a, a ∈ T ↔ a ∈ S ∨ a ∈ C) → ∃ o2 T', Cl L tl place todo2 T o2 T' ∧ o2.findSome? f = o.findSome? f ∧ (∀ a, a ∈ T' ↔ a ∈ S' ∨ a ∈ C) := by
  induction h with
  | nil S =>
    intro t T hd hT
    cases hd
    exact ⟨[], T, .nil T, rfl, hT⟩
  | skip x rest S o S' hb _ ih =>
    intro t T hd hT
    cases hd with
    | keep _ _ l2 hd =>
      obtain ⟨o2, T', h1, h2, h3⟩ := ih l2 T hd hT
      refine ⟨o2, T', .skip x l2 T o2 T' ?_ h1, h2, h3⟩
      unfold Bad at hb ⊢
      rcases hb with hb | hb | hb
      · exact .inl hb
      · exact .inr (.inl hb)
      · refine .inr (.inr ?_)
        simp only [List.contains_iff_mem] at hb ⊢
        exact (hT _).2 (.inl hb)
    | drop _ _ _ _ hd => exact ih t T hd hT
  | go x rest S o S' i hb hi _ ih =>
    intro t T hd hT
    have hbS : x.at_ ∉ S := fun e => hb (.inr (.inr (by simpa using e)))
    have hin : x.at_ ∈ C → ∀ t2, Del L C rest t2 → ∃ o2 T', Cl L tl place t2 T o2 T' ∧ o2.findSome? f = ((if i.op = 1 ∨ i.op = 7 then [x] else []) ++ o).findSome? f ∧ (∀ a, a ∈ T' ↔ a ∈ S' ∨ a ∈ C) := fun hc t2 hd2 => by
      obtain ⟨o2, T', h1, h2, h3⟩ := ih t2 T (hd2.less _ (fun y hy => hC _ hc i x.ps hi y hy)) (fun a => by
        rw [hT a]
        simp only [List.mem_cons]
        constructor
        · rintro (h | h)
          · exact .inl (.inr h)
          · exact .inr h
        · rintro ((h | h) | h)
          · subst h; exact .inr hc
          · exact .inl h
          · exact .inr h)
      refine ⟨o2, T', h1, ?_, h3⟩
      rw [h2, List.findSome?_append]
      split
      · simp [hf x hc]
      · simp
    cases hd with
    | keep _ _ l2 hd =>
      by_cases hc : x.at_ ∈ C
      · obtain ⟨o2, T', h1, h2, h3⟩ := hin hc l2 hd
        exact ⟨o2, T', .skip x l2 T o2 T' (.inr (.inr (by simpa using (hT _).2 (.inr hc)))) h1, h2, h3⟩
      · obtain ⟨o2, T', h1, h2, h3⟩ := ih (pushT i x tl place ++ l2) (x.at_ :: T) (hd.app _) (fun a => by
          simp only [List.mem_cons]
          rw [hT a]
          constructor
          · rintro (h | h | h)
            · exact .inl (.inl h)
            · exact .inl (.inr h)
            · exact .inr h
          · rintro ((h | h) | h)
            · exact .inl h
            · exact .inr (.inl h)
            · exact .inr (.inr h))
        refine ⟨_, T', .go x l2 T o2 T' i ?_ hi h1, ?_, h3⟩
        · intro hb2
          rcases hb2 with h | h | h
          · exact hb (.inl h)
          · exact hb (.inr (.inl h))
          · rcases (hT _).1 (by simpa using h) with h | h
            · exact hbS h
            · exact hc h
        · rw [List.findSome?_append, List.findSome?_append, h2]
    | drop _ _ _ hx hd =>
      rcases hx with hx | hx | hx
      · exact absurd (.inl hx) hb
      · exact absurd (.inr (.inl hx)) hb
      · exact hin hx t hd
theorem pushT_mem {i : Ins} {ps qs : List Int} {a : Int} {tl place : Nat} {y : Way} (h : y ∈ pushT i ⟨ps, a⟩ tl place) : ∃ z ∈ pushT i ⟨qs, a⟩ tl place, z.at_ = y.at_ := by
  have h1 := pushT_at i ⟨ps, a⟩ ⟨qs, a⟩ tl place rfl
  have h2 : y.at_ ∈ (pushT i ⟨ps, a⟩ tl place).map (·.at_) := List.mem_map.2 ⟨y, h, rfl⟩
  rw [h1] at h2
  obtain ⟨z, hz, e⟩ := List.mem_map.1 h2
  exact ⟨z, hz, e⟩
/-- what was seen behind it is closed again, and holds what was asked -/
theorem Cl.closed {L : List Ins} {tl place : Nat} {todo : List Way} {S : List Int} {o : List Way} {S' : List Int} (h : Cl L tl place todo S o S') :
    (∀ a ∈ S, ∀ (i : Ins) (ps : List Int), L[a.toNat]? = some i → ∀ y ∈ pushT i ⟨ps, a⟩ tl place, y.at_ < 0 ∨ (L.length : Int) ≤ y.at_ ∨ y.at_ ∈ S ∨ ∃ z ∈ todo, z.at_ = y.at_) → Closed L tl place S' := by
  induction h with
  | nil S =>
    intro hS a ha i ps hi y hy
    rcases hS a ha i ps hi y hy with h | h | h | ⟨z, hz, _⟩
    · exact .inl h
    · exact .inr (.inl h)
    · exact .inr (.inr h)
    · cases hz
  | skip x rest S o S' hb _ ih =>
    intro hS
    refine ih (fun a ha i ps hi y hy => ?_)
    rcases hS a ha i ps hi y hy with h | h | h | ⟨z, hz, e⟩
    · exact .inl h
    · exact .inr (.inl h)
    · exact .inr (.inr (.inl h))
    · rcases List.mem_cons.1 hz with rfl | hz
      · rcases hb with h | h | h
        · exact .inl (by omega)
        · exact .inr (.inl (by omega))
        · exact .inr (.inr (.inl (by rw [← e]; simpa using h)))
      · exact .inr (.inr (.inr ⟨z, hz, e⟩))
  | go x rest S o S' i hb hi _ ih =>
    intro hS
    refine ih (fun a ha i2 ps hi2 y hy => ?_)
    rcases List.mem_cons.1 ha with rfl | ha
    · rw [hi] at hi2
      injection hi2 with hi2
      subst hi2
      obtain ⟨z, hz, e⟩ := pushT_mem (qs := x.ps) hy
      exact .inr (.inr (.inr ⟨z, by simp [hz], e⟩))
    · rcases hS a ha i2 ps hi2 y hy with h | h | h | ⟨z, hz, e⟩
      · exact .inl h
      · exact .inr (.inl h)
      · exact .inr (.inr (.inl (by simp [h])))
      · rcases List.mem_cons.1 hz with rfl | hz
        · exact .inr (.inr (.inl (by simp [e])))
        · exact .inr (.inr (.inr ⟨z, by simp [hz], e⟩))
/-- what is seen was seen, or is a way, or no place of a way -/
theorem Cl.mem {L : List Ins} {tl place : Nat} {todo : List Way} {S : List Int} {o : List Way} {S' : List Int} (h : Cl L tl place todo S o S') :
    (∀ a ∈ S', a ∈ S ∨ (∃ x ∈ o, x.at_ = a) ∨ ∃ i, L[a.toNat]? = some i ∧ ¬ (i.op = 1 ∨ i.op = 7)) ∧ (∀ x ∈ o, 0 ≤ x.at_ ∧ ∃ i, L[x.at_.toNat]? = some i ∧ (i.op = 1 ∨ i.op = 7)) := by
  induction h with
  | nil S => exact ⟨fun a ha => .inl ha, fun x hx => by cases hx⟩
  | skip x rest S o S' hb _ ih => exact ih
  | go x rest S o S' i hb hi _ ih =>
    refine ⟨fun a ha => ?_, fun y hy => ?_⟩
    · rcases ih.1 a ha with h | ⟨y, hy, e⟩ | h
      · rcases List.mem_cons.1 h with rfl | h
        · by_cases hop : i.op = 1 ∨ i.op = 7
          · exact .inr (.inl ⟨x, by rw [if_pos hop]; simp, rfl⟩)
          · exact .inr (.inr ⟨i, hi, hop⟩)
        · exact .inl h
      · exact .inr (.inl ⟨y, by simp [hy], e⟩)
      · exact .inr (.inr h)
    · rcases List.mem_append.1 hy with hy | hy
      · split at hy
        · rename_i hop
          simp at hy
          subst hy
          refine ⟨?_, i, hi, hop⟩
          have : ¬ y.at_ < 0 := fun e => hb (.inl e)
          omega
        · cases hy
      · exact ih.2 y hy
end Go.Proofs.Ytldcbkememonaaa
