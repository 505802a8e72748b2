/-
  The plain law of pike: what a list of ways leads to, in layers; seen ways that lead nowhere do not matter. / The plain law of pike: its Find is the first place from which a walk meets a Match. / The plain law of graticuleref12's walk: what its search answers is what the layers say.
-/
import Derived.Test.YtldcbkememonaaaPg
namespace Go.Proofs.Ytldcbkememonaaa
open Go.RowKit
set_option linter.unusedVariables false
set_option linter.unusedSimpArgs false

def Bad (L : List Ins) (S : List Int) (x : Way) : Prop := x.at_ < 0 ∨ (L.length : Int) ≤ x.at_ ∨ S.contains x.at_ = true
/-- what ways at a place lead to without a byte -/
inductive Cl (L : List Ins) (tl place : Nat) : List Way → List Int → List Way → List Int → Prop
  | nil (S : List Int) : Cl L tl place [] S [] S
  | skip (x : Way) (rest : List Way) (S : List Int) (o : List Way) (S' : List Int) : Bad L S x → Cl L tl place rest S o S' → Cl L tl place (x :: rest) S o S'
  | go (x : Way) (rest : List Way) (S : List Int) (o : List Way) (S' : List Int) (i : Ins) : ¬ Bad L S x → L[x.at_.toNat]? = some i → Cl L tl place (pushT i x tl place ++ rest) (x.at_ :: S) o S' →
      Cl L tl place (x :: rest) S ((if i.op = 1 ∨ i.op = 7 then [x] else []) ++ o) S'
theorem Cl.of_adds {L : List Ins} {tl place : Nat} : ∀ (f : Nat) (todo ws : List Way) (S : List Int) (R : List Way × List Int), addsF L tl place f todo ws S = some R → ∃ o, R.1 = ws ++ o ∧ Cl L tl place todo S o R.2
  | 0, todo, ws, S, R, h => by
    unfold addsF at h
    split at h
    · rename_i h1
      injection h with h; subst h
      have : todo = [] := by simpa using h1
      subst this
      exact ⟨[], by simp, .nil S⟩
    · cases h
  | f + 1, [], ws, S, R, h => by
    unfold addsF at h
    injection h with h; subst h
    exact ⟨[], by simp, .nil S⟩
  | f + 1, x :: rest, ws, S, R, h => by
    rw [addsF_eq] at h
    split at h
    · rename_i hb
      obtain ⟨o, h1, h2⟩ := Cl.of_adds f rest ws S R h
      exact ⟨o, h1, .skip x rest S o _ hb h2⟩
    · rename_i hb
      split at h
      · cases h
      · rename_i i hi
        obtain ⟨o, h1, h2⟩ := Cl.of_adds f _ _ _ R h
        refine ⟨_, ?_, .go x rest S o _ i hb hi h2⟩
        rw [h1]
        split <;> simp
theorem Cl.det {L : List Ins} {tl place : Nat} {todo : List Way} {S : List Int} {o : List Way} {S' : List Int} (h : Cl L tl place todo S o S') : ∀ {o2 : List Way} {S2 : List Int}, Cl L tl place todo S o2 S2 → o2 = o ∧ S2 = S' := by
  induction h with
  | nil S => intro o2 S2 k; cases k; exact ⟨rfl, rfl⟩
  | skip x rest S o S' hb _ ih =>
    intro o2 S2 k
    cases k with
    | skip _ _ _ _ _ _ k2 => exact ih k2
    | go _ _ _ _ _ _ hb2 _ _ => exact absurd hb hb2
  | go x rest S o S' i hb hi _ ih =>
    intro o2 S2 k
    cases k with
    | skip _ _ _ _ _ hb2 _ => exact absurd hb2 hb
    | go _ _ _ o3 _ i2 _ hi2 k2 =>
      rw [hi] at hi2
      injection hi2 with hi2
      subst hi2
      obtain ⟨h1, h2⟩ := ih k2
      exact ⟨by rw [h1], h2⟩
theorem pushT_at (i : Ins) (x y : Way) (tl place : Nat) (h : x.at_ = y.at_) : (pushT i x tl place).map (·.at_) = (pushT i y tl place).map (·.at_) := by
  unfold pushT
  repeat' split
  all_goals simp [h]
theorem Cl.at {L : List Ins} {tl place : Nat} {todo : List Way} {S : List Int} {o : List Way} {S' : List Int} (h : Cl L tl place todo S o S') : ∀ todo2 : List Way, todo2.map (·.at_) = todo.map (·.at_) → ∃ o2, Cl L tl place todo2 S o2 S' ∧ o2.map (·.at_) = o.map (·.at_) := by
  induction h with
  | nil S =>
    intro t ht
    have : t = [] := by simpa using ht
    subst this
    exact ⟨[], .nil S, rfl⟩
  | skip x rest S o S' hb _ ih =>
    intro t ht
    cases t with
    | nil => simp at ht
    | cons y t =>
      simp only [List.map_cons, List.cons.injEq] at ht
      obtain ⟨o2, h1, h2⟩ := ih t ht.2
      refine ⟨o2, .skip y t S o2 S' ?_ h1, h2⟩
      unfold Bad at hb ⊢
      rw [ht.1]
      exact hb
  | go x rest S o S' i hb hi _ ih =>
    intro t ht
    cases t with
    | nil => simp at ht
    | cons y t =>
      simp only [List.map_cons, List.cons.injEq] at ht
      obtain ⟨o2, h1, h2⟩ := ih (pushT i y tl place ++ t) (by rw [List.map_append, List.map_append, ht.2, pushT_at i y x tl place ht.1])
      refine ⟨_, .go y t S o2 S' i (by unfold Bad at hb ⊢; rw [ht.1]; exact hb) (by rw [ht.1]; exact hi) (by rw [ht.1]; exact h1), ?_⟩
      rw [List.map_append, List.map_append, h2]
      congr 1
      split <;> simp [ht.1]
/-- seen places that lead to seen places only -/
def Closed (L : List Ins) (tl place : Nat) (C : List Int) : Prop := ∀ a ∈ C, ∀ (i : Ins) (ps : List Int), L[a.toNat]? = some i → ∀ y ∈ pushT i ⟨ps, a⟩ tl place, y.at_ < 0 ∨ (L.length : Int) ≤ y.at_ ∨ y.at_ ∈ C
/-- a list without some that do not matter -/
inductive Del (L : List Ins) (C : List Int) : List Way → List Way → Prop
  | nil : Del L C [] []
  | keep (x : Way) (l l2 : List Way) : Del L C l l2 → Del L C (x :: l) (x :: l2)
  | drop (x : Way) (l l2 : List Way) : (x.at_ < 0 ∨ (L.length : Int) ≤ x.at_ ∨ x.at_ ∈ C) → Del L C l l2 → Del L C (x :: l) l2
theorem Del.refl (L : List Ins) (C : List Int) : ∀ l : List Way, Del L C l l
  | [] => .nil
  | x :: l => .keep x l l (Del.refl L C l)
theorem Del.app {L : List Ins} {C : List Int} {l l2 : List Way} (h : Del L C l l2) : ∀ p : List Way, Del L C (p ++ l) (p ++ l2)
  | [] => h
  | x :: p => .keep x _ _ (h.app p)
theorem Del.less {L : List Ins} {C : List Int} {l l2 : List Way} (h : Del L C l l2) : ∀ p : List Way, (∀ x ∈ p, x.at_ < 0 ∨ (L.length : Int) ≤ x.at_ ∨ x.at_ ∈ C) → Del L C (p ++ l) l2
  | [], _ => h
  | x :: p, hp => .drop x _ _ (hp x (by simp)) (h.less p (fun y hy => hp y (by simp [hy])))
theorem Cl.share {L : List Ins} {tl place : Nat} {C : List Int} (hC : Closed L tl place C) {γ : Type} (f : Way → Option γ) (hf : ∀ x : Way, x.at_ ∈ C → f x = none) {todo : List Way} {S : List Int} {o : List Way} {S' : List Int} (h : Cl L tl place todo S o S') :
    ∀ (todo2 : List Way) (T : List Int), Del L C todo todo2 → (∀ a, a ∈ T ↔ a ∈ S ∨ a ∈ C) → ∃ o2 T', Cl L tl place todo2 T o2 T' ∧ o2.findSome? f = o.findSome? f ∧ (∀ a, a ∈ T' ↔ a ∈ S' ∨ a ∈ C) := by
  induction h with
  | nil S =>
    intro t T hd hT
    cases hd
    exact ⟨[], T, .nil T, rfl, hT⟩
  | skip x rest S o S' hb _ ih =>
    intro t T hd hT
    cases hd with
    | keep _ _ l2 hd =>
      obtain ⟨o2, T', h1, h2, h3⟩ := ih l2 T hd hT
      refine ⟨o2, T', .skip x l2 T o2 T' ?_ h1, h2, h3⟩
      unfold Bad at hb ⊢
      rcases hb with hb | hb | hb
      · exact .inl hb
      · exact .inr (.inl hb)
      · refine .inr (.inr ?_)
        simp only [List.contains_iff_mem] at hb ⊢
        exact (hT _).2 (.inl hb)
    | drop _ _ _ _ hd => exact ih t T hd hT
  | go x rest S o S' i hb hi _ ih =>
    intro t T hd hT
    have hbS : x.at_ ∉ S := fun e => hb (.inr (.inr (by simpa using e)))
    have hin : x.at_ ∈ C → ∀ t2, Del L C rest t2 → ∃ o2 T', Cl L tl place t2 T o2 T' ∧ o2.findSome? f = ((if i.op = 1 ∨ i.op = 7 then [x] else []) ++ o).findSome? f ∧ (∀ a, a ∈ T' ↔ a ∈ S' ∨ a ∈ C) := fun hc t2 hd2 => by
      obtain ⟨o2, T', h1, h2, h3⟩ := ih t2 T (hd2.less _ (fun y hy => hC _ hc i x.ps hi y hy)) (fun a => by
        rw [hT a]
        simp only [List.mem_cons]
        constructor
        · rintro (h | h)
          · exact .inl (.inr h)
          · exact .inr h
        · rintro ((h | h) | h)
          · subst h; exact .inr hc
          · exact .inl h
          · exact .inr h)
      refine ⟨o2, T', h1, ?_, h3⟩
      rw [h2, List.findSome?_append]
      split
      · simp [hf x hc]
      · simp
    cases hd with
    | keep _ _ l2 hd =>
      by_cases hc : x.at_ ∈ C
      · obtain ⟨o2, T', h1, h2, h3⟩ := hin hc l2 hd
        exact ⟨o2, T', .skip x l2 T o2 T' (.inr (.inr (by simpa using (hT _).2 (.inr hc)))) h1, h2, h3⟩
      · obtain ⟨o2, T', h1, h2, h3⟩ := ih (pushT i x tl place ++ l2) (x.at_ :: T) (hd.app _) (fun a => by
          simp only [List.mem_cons]
          rw [hT a]
          constructor
          · rintro (h | h | h)
            · exact .inl (.inl h)
            · exact .inl (.inr h)
            · exact .inr h
          · rintro ((h | h) | h)
            · exact .inl h
            · exact .inr (.inl h)
            · exact .inr (.inr h))
        refine ⟨_, T', .go x l2 T o2 T' i ?_ hi h1, ?_, h3⟩
        · intro hb2
          rcases hb2 with h | h | h
          · exact hb (.inl h)
          · exact hb (.inr (.inl h))
          · rcases (hT _).1 (by simpa using h) with h | h
            · exact hbS h
            · exact hc h
        · rw [List.findSome?_append, List.findSome?_append, h2]
    | drop _ _ _ hx hd =>
      rcases hx with hx | hx | hx
      · exact absurd (.inl hx) hb
      · exact absurd (.inr (.inl hx)) hb
      · exact hin hx t hd
theorem pushT_mem {i : Ins} {ps qs : List Int} {a : Int} {tl place : Nat} {y : Way} (h : y ∈ pushT i ⟨ps, a⟩ tl place) : ∃ z ∈ pushT i ⟨qs, a⟩ tl place, z.at_ = y.at_ := by
  have h1 := pushT_at i ⟨ps, a⟩ ⟨qs, a⟩ tl place rfl
  have h2 : y.at_ ∈ (pushT i ⟨ps, a⟩ tl place).map (·.at_) := List.mem_map.2 ⟨y, h, rfl⟩
  rw [h1] at h2
  obtain ⟨z, hz, e⟩ := List.mem_map.1 h2
  exact ⟨z, hz, e⟩
/-- what was seen behind it is closed again, and holds what was asked -/
theorem Cl.closed {L : List Ins} {tl place : Nat} {todo : List Way} {S : List Int} {o : List Way} {S' : List Int} (h : Cl L tl place todo S o S') :
    (∀ a ∈ S, ∀ (i : Ins) (ps : List Int), L[a.toNat]? = some i → ∀ y ∈ pushT i ⟨ps, a⟩ tl place, y.at_ < 0 ∨ (L.length : Int) ≤ y.at_ ∨ y.at_ ∈ S ∨ ∃ z ∈ todo, z.at_ = y.at_) → Closed L tl place S' := by
  induction h with
  | nil S =>
    intro hS a ha i ps hi y hy
    rcases hS a ha i ps hi y hy with h | h | h | ⟨z, hz, _⟩
    · exact .inl h
    · exact .inr (.inl h)
    · exact .inr (.inr h)
    · cases hz
  | skip x rest S o S' hb _ ih =>
    intro hS
    refine ih (fun a ha i ps hi y hy => ?_)
    rcases hS a ha i ps hi y hy with h | h | h | ⟨z, hz, e⟩
    · exact .inl h
    · exact .inr (.inl h)
    · exact .inr (.inr (.inl h))
    · rcases List.mem_cons.1 hz with rfl | hz
      · rcases hb with h | h | h
        · exact .inl (by omega)
        · exact .inr (.inl (by omega))
        · exact .inr (.inr (.inl (by rw [← e]; simpa using h)))
      · exact .inr (.inr (.inr ⟨z, hz, e⟩))
  | go x rest S o S' i hb hi _ ih =>
    intro hS
    refine ih (fun a ha i2 ps hi2 y hy => ?_)
    rcases List.mem_cons.1 ha with rfl | ha
    · rw [hi] at hi2
      injection hi2 with hi2
      subst hi2
      obtain ⟨z, hz, e⟩ := pushT_mem (qs := x.ps) hy
      exact .inr (.inr (.inr ⟨z, by simp [hz], e⟩))
    · rcases hS a ha i2 ps hi2 y hy with h | h | h | ⟨z, hz, e⟩
      · exact .inl h
      · exact .inr (.inl h)
      · exact .inr (.inr (.inl (by simp [h])))
      · rcases List.mem_cons.1 hz with rfl | hz
        · exact .inr (.inr (.inl (by simp [e])))
        · exact .inr (.inr (.inr ⟨z, by simp [hz], e⟩))
/-- what is seen was seen, or is a way, or no place of a way -/
theorem Cl.mem {L : List Ins} {tl place : Nat} {todo : List Way} {S : List Int} {o : List Way} {S' : List Int} (h : Cl L tl place todo S o S') :
    (∀ a ∈ S', a ∈ S ∨ (∃ x ∈ o, x.at_ = a) ∨ ∃ i, L[a.toNat]? = some i ∧ ¬ (i.op = 1 ∨ i.op = 7)) ∧ (∀ x ∈ o, 0 ≤ x.at_ ∧ ∃ i, L[x.at_.toNat]? = some i ∧ (i.op = 1 ∨ i.op = 7)) := by
  induction h with
  | nil S => exact ⟨fun a ha => .inl ha, fun x hx => by cases hx⟩
  | skip x rest S o S' hb _ ih => exact ih
  | go x rest S o S' i hb hi _ ih =>
    refine ⟨fun a ha => ?_, fun y hy => ?_⟩
    · rcases ih.1 a ha with h | ⟨y, hy, e⟩ | h
      · rcases List.mem_cons.1 h with rfl | h
        · by_cases hop : i.op = 1 ∨ i.op = 7
          · exact .inr (.inl ⟨x, by rw [if_pos hop]; simp, rfl⟩)
          · exact .inr (.inr ⟨i, hi, hop⟩)
        · exact .inl h
      · exact .inr (.inl ⟨y, by simp [hy], e⟩)
      · exact .inr (.inr h)
    · rcases List.mem_append.1 hy with hy | hy
      · split at hy
        · rename_i hop
          simp at hy
          subst hy
          refine ⟨?_, i, hi, hop⟩
          have : ¬ y.at_ < 0 := fun e => hb (.inl e)
          omega
        · cases hy
      · exact ih.2 y hy
end Go.Proofs.Ytldcbkememonaaa

namespace Go.Proofs.Ytldcbkememonaaa
open Go.RowKit
set_option linter.unusedVariables false
set_option linter.unusedSimpArgs false

/-- the ways behind a start -/
def fresh (L : List Ins) (tl place : Nat) (x : Way) : List Way := match addsF L tl place (fuelA L) [x] [] [] with
  | some R => R.1
  | none => []
theorem fresh_cl (L : List Ins) (tl place : Nat) (x : Way) : ∃ S', addsF L tl place (fuelA L) [x] [] [] = some (fresh L tl place x, S') ∧ Cl L tl place [x] [] (fresh L tl place x) S' := by
  obtain ⟨R, hR, _⟩ := addsF_one L tl place x.ps.length x [] [] (AOk.nil L _) rfl
  have hf : fresh L tl place x = R.1 := by unfold fresh; rw [hR]
  obtain ⟨o, h1, h2⟩ := Cl.of_adds _ _ _ _ R hR
  refine ⟨R.2, by rw [hf]; exact hR, ?_⟩
  rw [hf, h1]
  exact h2
/-- what a way leads to, with so many places left -/
def RD (L : List Ins) (tx : ByteArray) : Nat → Way → Option (List Int)
  | 0, x => match L[x.at_.toNat]? with
    | none => none
    | some i => if i.op = 7 then some x.ps else none
  | k + 1, x => match L[x.at_.toNat]? with
    | none => none
    | some i => if i.op = 7 then some x.ps else if i.op = 1 ∧ hasF i.ps (by_ tx (tx.size - (k + 1))) = true then (fresh L tx.size (tx.size - k) ⟨x.ps, x.at_ + 1⟩).findSome? (RD L tx k) else none
theorem RD_hit {L : List Ins} {tx : ByteArray} {k : Nat} {x : Way} {i : Ins} (hi : L[x.at_.toNat]? = some i) (h : i.op = 7) : RD L tx k x = some x.ps := by
  cases k <;> simp [RD, hi, h]
theorem RD_non {L : List Ins} {tx : ByteArray} {k : Nat} {x : Way} {i : Ins} (hi : L[x.at_.toNat]? = some i) (h : ¬ (i.op = 1 ∨ i.op = 7)) : RD L tx k x = none := by
  have h1 : ¬ i.op = 1 := fun e => h (.inl e)
  have h2 : ¬ i.op = 7 := fun e => h (.inr e)
  cases k <;> simp [RD, hi, h1, h2]
theorem map_none {f : Way → Option (List Int)} (hf : ∀ x y : Way, x.at_ = y.at_ → f x = none → f y = none) {o o2 : List Way} (h : o2.map (·.at_) = o.map (·.at_)) (hn : o.findSome? f = none) : o2.findSome? f = none := by
  rw [List.findSome?_eq_none_iff] at hn ⊢
  intro y hy
  have h1 : y.at_ ∈ o2.map (·.at_) := List.mem_map.2 ⟨y, hy, rfl⟩
  rw [h] at h1
  obtain ⟨x, hx, e⟩ := List.mem_map.1 h1
  exact hf x y e (hn x hx)
theorem fresh_at (L : List Ins) (tl place : Nat) (x y : Way) (h : x.at_ = y.at_) : (fresh L tl place y).map (·.at_) = (fresh L tl place x).map (·.at_) := by
  obtain ⟨S1, _, h1⟩ := fresh_cl L tl place x
  obtain ⟨S2, _, h2⟩ := fresh_cl L tl place y
  obtain ⟨o2, h3, h4⟩ := h1.at [y] (by simp [h])
  rw [← (h2.det h3).1]
  exact h4
theorem RD_none (L : List Ins) (tx : ByteArray) : ∀ (k : Nat) (x y : Way), x.at_ = y.at_ → RD L tx k x = none → RD L tx k y = none
  | 0, x, y, h, hn => by
    unfold RD at hn ⊢
    rw [← h]
    split at hn
    · rfl
    · rename_i i h1
      split at hn
      · cases hn
      · rename_i h2; rw [if_neg h2]
  | k + 1, x, y, h, hn => by
    unfold RD at hn ⊢
    rw [← h]
    split at hn
    · rfl
    · rename_i i h1
      split at hn
      · cases hn
      · rename_i h2
        rw [if_neg h2]
        split at hn
        · rename_i h3
          rw [if_pos h3]
          exact map_none (RD_none L tx k) (fresh_at L _ _ ⟨x.ps, x.at_ + 1⟩ ⟨y.ps, x.at_ + 1⟩ rfl) hn
        · rename_i h3; rw [if_neg h3]
/-- ways and what was seen of them -/
structure Ivs (L : List Ins) (tl place : Nat) (ws : List Way) (S : List Int) : Prop where
  cl : Closed L tl place S
  mem : ∀ a ∈ S, (∃ x ∈ ws, x.at_ = a) ∨ ∃ i, L[a.toNat]? = some i ∧ ¬ (i.op = 1 ∨ i.op = 7)
  wy : ∀ x ∈ ws, 0 ≤ x.at_ ∧ ∃ i, L[x.at_.toNat]? = some i ∧ (i.op = 1 ∨ i.op = 7)
theorem Ivs.nil (L : List Ins) (tl place : Nat) : Ivs L tl place [] [] := ⟨fun a ha => by (cases ha), fun a ha => by (cases ha), fun a ha => by (cases ha)⟩
theorem Ivs.add {L : List Ins} {tl place : Nat} {ws o : List Way} {S S' : List Int} {x : Way} (h : Ivs L tl place ws S) (hc : Cl L tl place [x] S o S') : Ivs L tl place (ws ++ o) S' := by
  refine ⟨hc.closed (fun a ha i ps hi y hy => ?_), fun a ha => ?_, fun y hy => ?_⟩
  · rcases h.cl a ha i ps hi y hy with h1 | h1 | h1
    · exact .inl h1
    · exact .inr (.inl h1)
    · exact .inr (.inr (.inl h1))
  · rcases hc.mem.1 a ha with h1 | ⟨y, hy, e⟩ | h1
    · rcases h.mem a h1 with ⟨y, hy, e⟩ | h2
      · exact .inl ⟨y, by simp [hy], e⟩
      · exact .inr h2
    · exact .inl ⟨y, by simp [hy], e⟩
    · exact .inr h1
  · rcases List.mem_append.1 hy with h1 | h1
    · exact h.wy y h1
    · exact hc.mem.2 y h1
theorem dead_of {L : List Ins} {tx : ByteArray} {k : Nat} {ws : List Way} {S : List Int} (hm : ∀ a ∈ S, (∃ x ∈ ws, x.at_ = a) ∨ ∃ i, L[a.toNat]? = some i ∧ ¬ (i.op = 1 ∨ i.op = 7)) (hn : ws.findSome? (RD L tx k) = none) :
    ∀ y : Way, y.at_ ∈ S → RD L tx k y = none := by
  intro y hy
  rcases hm _ hy with ⟨x, hx, e⟩ | ⟨i, hi, hop⟩
  · rw [List.findSome?_eq_none_iff] at hn
    exact RD_none L tx k x y e (hn x hx)
  · exact RD_non hi hop
/-- seen ways that lead nowhere do not matter -/
theorem share_dead {L : List Ins} {tx : ByteArray} {k place : Nat} {o : List Way} {S S' : List Int} {x : Way} (hC : Closed L tx.size place S) (hd : ∀ y : Way, y.at_ ∈ S → RD L tx k y = none) (hc : Cl L tx.size place [x] S o S') :
    o.findSome? (RD L tx k) = (fresh L tx.size place x).findSome? (RD L tx k) := by
  obtain ⟨S2, _, h2⟩ := fresh_cl L tx.size place x
  obtain ⟨o2, T', h3, h4, _⟩ := h2.share hC (RD L tx k) hd [x] S (Del.refl _ _ _) (fun a => by simp)
  rw [← (hc.det h3).1]
  exact h4
theorem share_one {L : List Ins} {tx : ByteArray} {k place : Nat} {ws o : List Way} {S S' : List Int} {x : Way} (h : Ivs L tx.size place ws S) (hc : Cl L tx.size place [x] S o S') :
    (ws ++ o).findSome? (RD L tx k) = (ws.findSome? (RD L tx k)).or ((fresh L tx.size place x).findSome? (RD L tx k)) := by
  rw [List.findSome?_append]
  cases hn : ws.findSome? (RD L tx k) with
  | some v => simp
  | none =>
    rw [Option.none_or, Option.none_or]
    exact share_dead h.cl (dead_of h.mem hn) hc
theorem step_spec {L : List Ins} {tx : ByteArray} {k : Nat} (hk : k + 1 ≤ tx.size) : ∀ (ws0 ws : List Way) (S : List Int) (R : List Way × List Int × Option (List Int)), stepF L tx (tx.size - (k + 1)) ws0 ws S = some R → Ivs L tx.size (tx.size - k) ws S →
    (∀ x ∈ ws0, ∃ i, L[x.at_.toNat]? = some i ∧ (i.op = 1 ∨ i.op = 7)) → Ivs L tx.size (tx.size - k) R.1 R.2.1 ∧ (R.1.findSome? (RD L tx k)).or R.2.2 = (ws.findSome? (RD L tx k)).or (ws0.findSome? (RD L tx (k + 1)))
  | [], ws, S, R, h, hI, _ => by
    unfold stepF at h
    injection h with h; subst h
    exact ⟨hI, by simp⟩
  | x :: rest, ws, S, R, h, hI, hw => by
    obtain ⟨i, hi, hop⟩ := hw x (by simp)
    have hr : ∀ y ∈ rest, ∃ i, L[y.at_.toNat]? = some i ∧ (i.op = 1 ∨ i.op = 7) := fun y hy => hw y (by simp [hy])
    have e : tx.size - (k + 1) + 1 = tx.size - k := by omega
    have hlt : tx.size - (k + 1) < tx.size := by omega
    unfold stepF at h
    rw [hi] at h
    simp only [e] at h
    by_cases h7 : i.op = 7
    · rw [if_pos h7] at h
      injection h with h; subst h
      refine ⟨hI, ?_⟩
      rw [List.findSome?_cons, RD_hit hi h7]
    · rw [if_neg h7] at h
      have h1 : i.op = 1 := hop.resolve_right h7
      by_cases hh : hasF i.ps (by_ tx (tx.size - (k + 1))) = true
      · rw [if_pos ⟨hlt, hh⟩] at h
        split at h
        · cases h
        · rename_i r hr1
          obtain ⟨o, ho, hc⟩ := Cl.of_adds _ _ _ _ r hr1
          have hI2 := hI.add hc
          rw [← ho] at hI2
          obtain ⟨g1, g2⟩ := step_spec hk rest r.1 r.2 R h hI2 hr
          refine ⟨g1, ?_⟩
          rw [g2, ho, share_one hI hc, Option.or_assoc, List.findSome?_cons]
          have hx : RD L tx (k + 1) x = (fresh L tx.size (tx.size - k) ⟨x.ps, x.at_ + 1⟩).findSome? (RD L tx k) := by
            conv => lhs; unfold RD
            rw [hi]
            simp only
            rw [if_neg h7, if_pos ⟨h1, hh⟩]
          rw [hx]
          cases (fresh L tx.size (tx.size - k) ⟨x.ps, x.at_ + 1⟩).findSome? (RD L tx k) <;> simp
      · rw [if_neg (fun q => hh q.2)] at h
        obtain ⟨g1, g2⟩ := step_spec hk rest ws S R h hI hr
        refine ⟨g1, ?_⟩
        have hx : RD L tx (k + 1) x = none := by
          conv => lhs; unfold RD
          rw [hi]
          simp only
          rw [if_neg h7, if_neg (fun q => hh q.2)]
        rw [g2, List.findSome?_cons, hx]
theorem step_last {L : List Ins} {tx : ByteArray} {place : Nat} (hp : tx.size ≤ place) : ∀ (ws0 ws : List Way) (S : List Int) (R : List Way × List Int × Option (List Int)), stepF L tx place ws0 ws S = some R →
    (∀ x ∈ ws0, ∃ i, L[x.at_.toNat]? = some i ∧ (i.op = 1 ∨ i.op = 7)) → R.2.2 = ws0.findSome? (RD L tx 0)
  | [], ws, S, R, h, _ => by
    unfold stepF at h
    injection h with h; subst h
    rfl
  | x :: rest, ws, S, R, h, hw => by
    obtain ⟨i, hi, hop⟩ := hw x (by simp)
    unfold stepF at h
    rw [hi] at h
    simp only at h
    by_cases h7 : i.op = 7
    · rw [if_pos h7] at h
      injection h with h; subst h
      rw [List.findSome?_cons, RD_hit hi h7]
    · rw [if_neg h7, if_neg (fun q => by have := q.1; omega)] at h
      rw [step_last hp rest ws S R h (fun y hy => hw y (by simp [hy])), List.findSome?_cons]
      have hx : RD L tx 0 x = none := by
        unfold RD
        rw [hi]
        simp only
        rw [if_neg h7]
      rw [hx]
/-- the first place from which a walk meets a Match, with so many places left -/
def ST (L : List Ins) (tx : ByteArray) (nw : List Int) : Nat → Option (List Int)
  | 0 => (fresh L tx.size tx.size ⟨nw, 0⟩).findSome? (RD L tx 0)
  | k + 1 => ((fresh L tx.size (tx.size - (k + 1)) ⟨nw, 0⟩).findSome? (RD L tx (k + 1))).or (ST L tx nw k)
theorem findG_round {L : List Ins} {tx : ByteArray} {nw : List Int} {k : Nat} {ws : List Way} {S : List Int} {fd res : Option (List Int)} (h : findG L tx nw (k + 1) ws S fd = some res) :
    (fd.isSome = true ∧ ws = [] ∧ res = fd) ∨ ∃ ws1 S1 R, (fd = none ∧ addsF L tx.size (tx.size - k) (fuelA L) [⟨nw, 0⟩] ws S = some (ws1, S1) ∨ fd.isSome = true ∧ ws1 = ws ∧ S1 = S) ∧
      stepF L tx (tx.size - k) ws1 [] [] = some R ∧ findG L tx nw k R.1 R.2.1 (if R.2.2.isSome then R.2.2 else fd) = some res := by
  unfold findG at h
  cases fd with
  | none =>
    simp only [Option.isNone_none, if_true, Option.isSome_none, Bool.and_false] at h
    right
    split at h
    · cases h
    · rename_i ws1 S1 h1
      split at h
      · simp_all
      · split at h
        · cases h
        · rename_i ws2 S2 mt h2
          exact ⟨ws1, S1, (ws2, S2, mt), .inl ⟨rfl, h1⟩, h2, h⟩
  | some v =>
    simp only [Option.isNone_some, Option.isSome_some, Bool.and_true] at h
    split at h
    · rename_i h1; simp at h1
    · rename_i ws1 S1 h1
      simp at h1
      obtain ⟨rfl, rfl⟩ := h1
      split at h
      · rename_i h2
        left
        injection h with h
        exact ⟨rfl, by simpa using h2, h.symm⟩
      · right
        split at h
        · cases h
        · rename_i ws2 S2 mt h2
          exact ⟨ws, S, (ws2, S2, mt), .inr ⟨rfl, rfl, rfl⟩, h2, h⟩
theorem findG_spec {L : List Ins} {tx : ByteArray} {nw : List Int} : ∀ (k : Nat), k ≤ tx.size → ∀ (ws : List Way) (S : List Int) (fd res : Option (List Int)), findG L tx nw (k + 1) ws S fd = some res → Ivs L tx.size (tx.size - k) ws S →
    res = (ws.findSome? (RD L tx k)).or (if fd.isSome then fd else ST L tx nw k) := by
  have start : ∀ (k : Nat) (ws ws1 : List Way) (S S1 : List Int) (fd : Option (List Int)), Ivs L tx.size (tx.size - k) ws S → (fd = none ∧ addsF L tx.size (tx.size - k) (fuelA L) [⟨nw, 0⟩] ws S = some (ws1, S1) ∨ fd.isSome = true ∧ ws1 = ws ∧ S1 = S) →
      Ivs L tx.size (tx.size - k) ws1 S1 ∧ ws1.findSome? (RD L tx k) = (ws.findSome? (RD L tx k)).or (if fd.isSome then none else (fresh L tx.size (tx.size - k) ⟨nw, 0⟩).findSome? (RD L tx k)) := fun k ws ws1 S S1 fd hI h => by
    rcases h with ⟨rfl, h⟩ | ⟨h, rfl, rfl⟩
    · obtain ⟨o, ho, hc⟩ := Cl.of_adds _ _ _ _ _ h
      simp only at ho hc
      have h2 := hI.add hc
      have h3 := share_one (k := k) hI hc
      rw [← ho] at h2 h3
      exact ⟨h2, by simpa using h3⟩
    · rw [if_pos h]
      exact ⟨hI, by simp⟩
  intro k
  induction k with
  | zero =>
    intro hk ws S fd res h hI
    rcases findG_round h with ⟨h1, rfl, rfl⟩ | ⟨ws1, S1, R, h1, h2, h3⟩
    · simp [h1]
    · obtain ⟨g1, g2⟩ := start 0 ws ws1 S S1 fd hI h1
      have g3 := step_last (by omega) _ _ _ _ h2 (fun x hx => (g1.wy x hx).2)
      unfold findG at h3
      injection h3 with h3
      rw [g3, g2] at h3
      rw [← h3]
      rw [show tx.size - 0 = tx.size from rfl] at *
      unfold ST
      cases hf : fd with
      | none => cases hw : ws.findSome? (RD L tx 0) <;> cases hq : (fresh L tx.size tx.size ⟨nw, 0⟩).findSome? (RD L tx 0) <;> simp
      | some v => cases hw : ws.findSome? (RD L tx 0) <;> simp
  | succ k ih =>
    intro hk ws S fd res h hI
    rcases findG_round h with ⟨h1, rfl, rfl⟩ | ⟨ws1, S1, R, h1, h2, h3⟩
    · simp [h1]
    · obtain ⟨g1, g2⟩ := start (k + 1) ws ws1 S S1 fd hI h1
      obtain ⟨g3, g4⟩ := step_spec hk _ _ _ _ h2 (Ivs.nil _ _ _) (fun x hx => (g1.wy x hx).2)
      rw [ih (by omega) _ _ _ _ h3 g3]
      simp only [List.findSome?_nil, Option.none_or] at g4
      rw [g2] at g4
      rw [show ST L tx nw (k + 1) = ((fresh L tx.size (tx.size - (k + 1)) ⟨nw, 0⟩).findSome? (RD L tx (k + 1))).or (ST L tx nw k) from rfl]
      cases hf : fd with
      | none =>
        rw [hf] at g4
        simp only [Option.isSome_none, if_false, Bool.false_eq_true] at g4 ⊢
        rw [← Option.or_assoc, ← g4]
        cases hr : R.1.findSome? (RD L tx k) <;> cases hm : R.2.2 <;> simp
      | some v =>
        rw [hf] at g4
        simp only [Option.isSome_some, if_true, Option.or_none] at g4 ⊢
        rw [← g4]
        cases hr : R.1.findSome? (RD L tx k) <;> cases hm : R.2.2 <;> simp
theorem findG_total {L : List Ins} {tx : ByteArray} {nw : List Int} : ∀ (k : Nat) (ws : List Way) (S : List Int) (fd : Option (List Int)), AOk L nw.length ws S → (∀ ps, fd = some ps → ps.length = nw.length) → ∃ res, findG L tx nw k ws S fd = some res ∧ ∀ ps, res = some ps → ps.length = nw.length
  | 0, ws, S, fd, _, hf => ⟨fd, rfl, hf⟩
  | k + 1, ws, S, fd, hA, hf => by
    have h1 : ∃ R, (if fd.isNone then addsF L tx.size (tx.size - k) (fuelA L) [⟨nw, 0⟩] ws S else some (ws, S)) = some R ∧ AOk L nw.length R.1 R.2 := by
      split
      · exact addsF_one L tx.size (tx.size - k) nw.length ⟨nw, 0⟩ ws S hA rfl
      · exact ⟨_, rfl, hA⟩
    obtain ⟨R, hR, hA1⟩ := h1
    unfold findG
    rw [hR]
    simp only
    split
    · exact ⟨fd, rfl, hf⟩
    · obtain ⟨R2, hR2⟩ := stepF_total L tx (tx.size - k) nw.length R.1 [] [] (AOk.nil L _) (fun y hy => ⟨(hA1.wy y hy).1, (hA1.wy y hy).2.1, (hA1.wy y hy).2.2⟩)
      obtain ⟨h3, h4⟩ := stepF_ok L tx (tx.size - k) nw.length R.1 [] [] R2 hR2 (AOk.nil L _) (fun y hy => (hA1.wy y hy).2.2)
      rw [hR2]
      refine findG_total k R2.1 R2.2.1 _ h3 (fun ps hps => ?_)
      split at hps
      · exact h4 ps hps
      · exact hf ps hps
/-- pike's Find -/
theorem findF_spec (gr : Int) (L : List Ins) (tx : ByteArray) (from_ : Int) (h : ¬ (from_ < 0 ∨ (tx.size : Int) < from_ ∨ gr < 0 ∨ 1024 < gr)) : findF gr L tx from_ = some (ST L tx (List.replicate (2 * gr.toNat + 2) (-1)) (tx.size - from_.toNat)) := by
  unfold findF
  rw [if_neg h]
  have e : tx.size + 1 - from_.toNat = (tx.size - from_.toNat) + 1 := by omega
  rw [e]
  obtain ⟨res, hr, _⟩ := findG_total (L := L) (tx := tx) (nw := List.replicate (2 * gr.toNat + 2) (-1)) ((tx.size - from_.toNat) + 1) [] [] none (AOk.nil L _) (fun ps h => by cases h)
  rw [hr, findG_spec _ (by omega) _ _ _ _ hr (Ivs.nil _ _ _)]
  simp
end Go.Proofs.Ytldcbkememonaaa

namespace Go.Proofs.Ytldcbkememonaaa
open Go.RowKit
set_option linter.unusedVariables false
set_option linter.unusedSimpArgs false

/-- the search, so many rounds; none: more are wanted -/
def walkF (L : List Ins) (tx : ByteArray) : Nat → List (Way × Nat) → List (Int × Nat) → Option (Option (List Int))
  | 0, st, _ => if st.isEmpty then some none else none
  | _ + 1, [], _ => some none
  | f + 1, (x, q) :: rest, S =>
    if x.at_ < 0 ∨ (L.length : Int) ≤ x.at_ ∨ S.contains (x.at_, q) = true then walkF L tx f rest S
    else match L[x.at_.toNat]? with
      | none => none
      | some i =>
        if i.op = 7 then some (some x.ps)
        else if i.op = 1 then walkF L tx f (if q < tx.size ∧ hasF i.ps (by_ tx q) = true then (⟨x.ps, x.at_ + 1⟩, q + 1) :: rest else rest) ((x.at_, q) :: S)
        else walkF L tx f ((pushT i x tx.size q).map (fun y => (y, q)) ++ rest) ((x.at_, q) :: S)
def BadW (L : List Ins) (S : List (Int × Nat)) (x : Way) (q : Nat) : Prop := x.at_ < 0 ∨ (L.length : Int) ≤ x.at_ ∨ S.contains (x.at_, q) = true
inductive Wk (L : List Ins) (tx : ByteArray) : List (Way × Nat) → List (Int × Nat) → Option (List Int) → Prop
  | nil (S : List (Int × Nat)) : Wk L tx [] S none
  | skip (x : Way) (q : Nat) (rest : List (Way × Nat)) (S : List (Int × Nat)) (r : Option (List Int)) : BadW L S x q → Wk L tx rest S r → Wk L tx ((x, q) :: rest) S r
  | hit (x : Way) (q : Nat) (rest : List (Way × Nat)) (S : List (Int × Nat)) (i : Ins) : ¬ BadW L S x q → L[x.at_.toNat]? = some i → i.op = 7 → Wk L tx ((x, q) :: rest) S (some x.ps)
  | set (x : Way) (q : Nat) (rest : List (Way × Nat)) (S : List (Int × Nat)) (i : Ins) (r : Option (List Int)) : ¬ BadW L S x q → L[x.at_.toNat]? = some i → i.op = 1 →
      Wk L tx (if q < tx.size ∧ hasF i.ps (by_ tx q) = true then (⟨x.ps, x.at_ + 1⟩, q + 1) :: rest else rest) ((x.at_, q) :: S) r → Wk L tx ((x, q) :: rest) S r
  | go (x : Way) (q : Nat) (rest : List (Way × Nat)) (S : List (Int × Nat)) (i : Ins) (r : Option (List Int)) : ¬ BadW L S x q → L[x.at_.toNat]? = some i → ¬ (i.op = 1 ∨ i.op = 7) →
      Wk L tx ((pushT i x tx.size q).map (fun y => (y, q)) ++ rest) ((x.at_, q) :: S) r → Wk L tx ((x, q) :: rest) S r
theorem Wk.of_walk {L : List Ins} {tx : ByteArray} : ∀ (f : Nat) (st : List (Way × Nat)) (S : List (Int × Nat)) (r : Option (List Int)), walkF L tx f st S = some r → Wk L tx st S r
  | 0, st, S, r, h => by
    unfold walkF at h
    split at h
    · rename_i h1
      injection h with h; subst h
      have : st = [] := by simpa using h1
      subst this
      exact .nil S
    · cases h
  | f + 1, [], S, r, h => by
    unfold walkF at h
    injection h with h; subst h
    exact .nil S
  | f + 1, (x, q) :: rest, S, r, h => by
    unfold walkF at h
    split at h
    · rename_i hb
      exact .skip x q rest S r hb (Wk.of_walk f _ _ r h)
    · rename_i hb
      split at h
      · cases h
      · rename_i i hi
        split at h
        · rename_i h7
          injection h with h; subst h
          exact .hit x q rest S i hb hi h7
        · rename_i h7
          split at h
          · rename_i h1
            exact .set x q rest S i r hb hi h1 (Wk.of_walk f _ _ r h)
          · rename_i h1
            exact .go x q rest S i r hb hi (fun e => e.elim h1 h7) (Wk.of_walk f _ _ r h)
theorem Wk.det {L : List Ins} {tx : ByteArray} {st : List (Way × Nat)} {S : List (Int × Nat)} {r : Option (List Int)} (h : Wk L tx st S r) : ∀ {r2 : Option (List Int)}, Wk L tx st S r2 → r2 = r := by
  induction h with
  | nil S => intro r2 k; cases k; rfl
  | skip x q rest S r hb _ ih =>
    intro r2 k
    cases k with
    | skip _ _ _ _ _ _ k => exact ih k
    | hit _ _ _ _ _ k => exact absurd hb k
    | set _ _ _ _ _ _ k => exact absurd hb k
    | go _ _ _ _ _ _ k => exact absurd hb k
  | hit x q rest S i hb hi h7 =>
    intro r2 k
    cases k with
    | skip _ _ _ _ _ k => exact absurd k hb
    | hit => rfl
    | set _ _ _ _ i2 _ _ hi2 h1 => rw [hi] at hi2; injection hi2 with hi2; subst hi2; omega
    | go _ _ _ _ i2 _ _ hi2 h1 => rw [hi] at hi2; injection hi2 with hi2; subst hi2; exact absurd (.inr h7) h1
  | set x q rest S i r hb hi h1 _ ih =>
    intro r2 k
    cases k with
    | skip _ _ _ _ _ k => exact absurd k hb
    | hit _ _ _ _ i2 _ hi2 h7 => rw [hi] at hi2; injection hi2 with hi2; subst hi2; omega
    | set _ _ _ _ i2 _ _ hi2 _ k => rw [hi] at hi2; injection hi2 with hi2; subst hi2; exact ih k
    | go _ _ _ _ i2 _ _ hi2 h2 => rw [hi] at hi2; injection hi2 with hi2; subst hi2; exact absurd (.inl h1) h2
  | go x q rest S i r hb hi h1 _ ih =>
    intro r2 k
    cases k with
    | skip _ _ _ _ _ k => exact absurd k hb
    | hit _ _ _ _ i2 _ hi2 h7 => rw [hi] at hi2; injection hi2 with hi2; subst hi2; exact absurd (.inr h7) h1
    | set _ _ _ _ i2 _ _ hi2 h2 => rw [hi] at hi2; injection hi2 with hi2; subst hi2; exact absurd (.inl h2) h1
    | go _ _ _ _ i2 _ _ hi2 _ k => rw [hi] at hi2; injection hi2 with hi2; subst hi2; exact ih k
/-- what was seen at a place -/
def layer (S : List (Int × Nat)) (q : Nat) : List Int := S.filterMap fun p => if p.2 = q then some p.1 else none
theorem layer_same (S : List (Int × Nat)) (a : Int) (q : Nat) : layer ((a, q) :: S) q = a :: layer S q := by simp [layer]
theorem layer_other (S : List (Int × Nat)) (a : Int) (q j : Nat) (h : j ≠ q) : layer ((a, q) :: S) j = layer S j := by
  have : ¬ q = j := fun e => h e.symm
  simp [layer, this]
theorem layer_mem (S : List (Int × Nat)) (a : Int) (q : Nat) : a ∈ layer S q ↔ (a, q) ∈ S := by
  unfold layer
  rw [List.mem_filterMap]
  constructor
  · rintro ⟨⟨b, j⟩, h1, h2⟩
    simp only at h2
    split at h2
    · rename_i e
      injection h2 with h2
      subst h2
      rw [← e]
      exact h1
    · cases h2
  · intro h
    exact ⟨(a, q), h, by simp⟩
theorem bad_iff (L : List Ins) (S : List (Int × Nat)) (x : Way) (q : Nat) : Bad L (layer S q) x ↔ BadW L S x q := by
  unfold Bad BadW
  simp only [List.contains_iff_mem, layer_mem]
/-- what was seen behind a place leads nowhere -/
def DeadFrom (L : List Ins) (tx : ByteArray) (S : List (Int × Nat)) (q : Nat) : Prop := ∀ j, q < j → j ≤ tx.size → Closed L tx.size j (layer S j) ∧ ∀ x : Way, x.at_ ∈ layer S j → RD L tx (tx.size - j) x = none
theorem Wk_main (L : List Ins) (tx : ByteArray) : ∀ (k q : Nat), q + k = tx.size → ∀ (todo : List Way) (T : List Int) (o : List Way) (T' : List Int), Cl L tx.size q todo T o T' → ∀ (S : List (Int × Nat)) (rest : List (Way × Nat)), layer S q = T → DeadFrom L tx S q →
    (∀ ps, o.findSome? (RD L tx k) = some ps → Wk L tx (todo.map (fun y => (y, q)) ++ rest) S (some ps)) ∧
    (o.findSome? (RD L tx k) = none → ∃ S2, (∀ r, Wk L tx rest S2 r → Wk L tx (todo.map (fun y => (y, q)) ++ rest) S r) ∧ layer S2 q = T' ∧ DeadFrom L tx S2 q ∧ ∀ j, j < q → layer S2 j = layer S j) := by
  intro k
  induction k with
  | zero =>
    intro q hq todo T o T' hc
    induction hc with
    | nil T =>
      intro S rest hS hD
      exact ⟨fun ps h => by simp at h, fun _ => ⟨S, fun r h => h, hS, hD, fun j _ => rfl⟩⟩
    | skip x tr T o T' hb _ ih =>
      intro S rest hS hD
      obtain ⟨h1, h2⟩ := ih S rest hS hD
      have hbw : BadW L S x q := (bad_iff L S x q).1 (by rw [hS]; exact hb)
      refine ⟨fun ps h => .skip x q _ S _ hbw (h1 ps h), fun h => ?_⟩
      obtain ⟨S2, a1, a2⟩ := h2 h
      exact ⟨S2, fun r hr => .skip x q _ S r hbw (a1 r hr), a2⟩
    | go x tr T o T' i hb hi _ ih =>
      intro S rest hS hD
      have hbw : ¬ BadW L S x q := fun e => hb (by rw [← hS]; exact (bad_iff L S x q).2 e)
      have hD1 : DeadFrom L tx ((x.at_, q) :: S) q := fun j h1 h2 => by rw [layer_other _ _ _ _ (by omega)]; exact hD j h1 h2
      obtain ⟨h1, h2⟩ := ih ((x.at_, q) :: S) rest (by rw [layer_same, hS]) hD1
      by_cases h7 : i.op = 7
      · rw [if_pos (.inr h7)]
        rw [List.singleton_append, List.findSome?_cons, RD_hit hi h7]
        exact ⟨fun ps h => by injection h with h; subst h; exact .hit x q _ S i hbw hi h7, fun h => by cases h⟩
      · by_cases hop : i.op = 1
        · have hp : pushT i x tx.size q = [] := by unfold pushT; rw [if_pos (.inl hop)]
          have hx : RD L tx 0 x = none := by unfold RD; rw [hi]; simp only; rw [if_neg h7]
          rw [if_pos (.inl hop), List.singleton_append, List.findSome?_cons, hx]
          rw [hp, List.nil_append] at h1 h2
          have stp : ∀ r, Wk L tx (tr.map (fun y => (y, q)) ++ rest) ((x.at_, q) :: S) r → Wk L tx ((x :: tr).map (fun y => (y, q)) ++ rest) S r := fun r hr => .set x q _ S i r hbw hi hop (by rw [if_neg (fun e => by have := e.1; omega)]; exact hr)
          refine ⟨fun ps h => stp _ (h1 ps h), fun h => ?_⟩
          obtain ⟨S2, a1, a2, a3, a4⟩ := h2 h
          exact ⟨S2, fun r hr => stp r (a1 r hr), a2, a3, fun j hj => (a4 j hj).trans (layer_other _ _ _ _ (by omega))⟩
        · have hn : ¬ (i.op = 1 ∨ i.op = 7) := fun e => e.elim hop h7
          rw [if_neg hn, List.nil_append]
          rw [List.map_append, List.append_assoc] at h1 h2
          refine ⟨fun ps h => .go x q _ S i _ hbw hi hn (h1 ps h), fun h => ?_⟩
          obtain ⟨S2, a1, a2, a3, a4⟩ := h2 h
          exact ⟨S2, fun r hr => .go x q _ S i r hbw hi hn (a1 r hr), a2, a3, fun j hj => (a4 j hj).trans (layer_other _ _ _ _ (by omega))⟩
  | succ k IH =>
    intro q hq todo T o T' hc
    induction hc with
    | nil T =>
      intro S rest hS hD
      exact ⟨fun ps h => by simp at h, fun _ => ⟨S, fun r h => h, hS, hD, fun j _ => rfl⟩⟩
    | skip x tr T o T' hb _ ih =>
      intro S rest hS hD
      obtain ⟨h1, h2⟩ := ih S rest hS hD
      have hbw : BadW L S x q := (bad_iff L S x q).1 (by rw [hS]; exact hb)
      refine ⟨fun ps h => .skip x q _ S _ hbw (h1 ps h), fun h => ?_⟩
      obtain ⟨S2, a1, a2⟩ := h2 h
      exact ⟨S2, fun r hr => .skip x q _ S r hbw (a1 r hr), a2⟩
    | go x tr T o T' i hb hi _ ih =>
      intro S rest hS hD
      have hbw : ¬ BadW L S x q := fun e => hb (by rw [← hS]; exact (bad_iff L S x q).2 e)
      have hD1 : DeadFrom L tx ((x.at_, q) :: S) q := fun j h1 h2 => by rw [layer_other _ _ _ _ (by omega)]; exact hD j h1 h2
      by_cases h7 : i.op = 7
      · rw [if_pos (.inr h7)]
        rw [List.singleton_append, List.findSome?_cons, RD_hit hi h7]
        exact ⟨fun ps h => by injection h with h; subst h; exact .hit x q _ S i hbw hi h7, fun h => by cases h⟩
      · by_cases hop : i.op = 1
        · have hp : pushT i x tx.size q = [] := by unfold pushT; rw [if_pos (.inl hop)]
          rw [hp, List.nil_append] at ih
          rw [if_pos (.inl hop), List.singleton_append, List.findSome?_cons]
          by_cases hh : hasF i.ps (by_ tx q) = true
          · have hlt : q < tx.size := by omega
            have eq1 : tx.size - k = q + 1 := by omega
            have eq2 : tx.size - (k + 1) = q := by omega
            have hx : RD L tx (k + 1) x = (fresh L tx.size (q + 1) ⟨x.ps, x.at_ + 1⟩).findSome? (RD L tx k) := by
              conv => lhs; unfold RD
              rw [hi]
              simp only [eq1, eq2]
              rw [if_neg h7, if_pos ⟨hop, hh⟩]
            have hDq := hD (q + 1) (by omega) (by omega)
            rw [show tx.size - (q + 1) = k by omega] at hDq
            obtain ⟨Sf, _, hf⟩ := fresh_cl L tx.size (q + 1) ⟨x.ps, x.at_ + 1⟩
            obtain ⟨o2, T2, hc2, ho2, hT2⟩ := hf.share hDq.1 (RD L tx k) hDq.2 [⟨x.ps, x.at_ + 1⟩] (layer S (q + 1)) (Del.refl _ _ _) (fun a => by simp)
            obtain ⟨b1, b2⟩ := IH (q + 1) (by omega) _ _ _ _ hc2 ((x.at_, q) :: S) (tr.map (fun y => (y, q)) ++ rest) (layer_other _ _ _ _ (by omega)) (fun j h1 h2 => by rw [layer_other _ _ _ _ (by omega)]; exact hD j (by omega) h2)
            have stp : ∀ r, Wk L tx ([(⟨x.ps, x.at_ + 1⟩, q + 1)] ++ (tr.map (fun y => (y, q)) ++ rest)) ((x.at_, q) :: S) r → Wk L tx ((x :: tr).map (fun y => (y, q)) ++ rest) S r := fun r hr => .set x q _ S i r hbw hi hop (by rw [if_pos ⟨hlt, hh⟩]; exact hr)
            rw [hx, ← ho2]
            cases hr : o2.findSome? (RD L tx k) with
            | some v =>
              simp only
              exact ⟨fun ps h => by injection h with h; subst h; exact stp _ (b1 _ hr), fun h => by cases h⟩
            | none =>
              simp only
              obtain ⟨S2, a1, a2, a3, a4⟩ := b2 hr
              have hDS : DeadFrom L tx S2 q := fun j h1 h2 => by
                rcases Nat.lt_or_ge (q + 1) j with h3 | h3
                · exact a3 j h3 h2
                · obtain rfl : j = q + 1 := by omega
                  rw [a2]
                  refine ⟨hc2.closed (fun a ha i2 ps hi2 y hy => ?_), ?_⟩
                  · rcases hDq.1 a ha i2 ps hi2 y hy with h | h | h
                    · exact .inl h
                    · exact .inr (.inl h)
                    · exact .inr (.inr (.inl h))
                  · rw [show tx.size - (q + 1) = k by omega]
                    intro y hy
                    rcases hc2.mem.1 _ hy with h | ⟨z, hz, e⟩ | ⟨i2, hi2, hop2⟩
                    · exact hDq.2 y h
                    · rw [List.findSome?_eq_none_iff] at hr
                      exact RD_none L tx k z y e (hr z hz)
                    · exact RD_non hi2 hop2
              have hl2 : layer S2 q = x.at_ :: T := by rw [a4 q (by omega), layer_same, hS]
              obtain ⟨c1, c2⟩ := ih S2 rest hl2 hDS
              refine ⟨fun ps h => stp _ (a1 _ (c1 ps h)), fun h => ?_⟩
              obtain ⟨S3, d1, d2, d3, d4⟩ := c2 h
              exact ⟨S3, fun r hr => stp r (a1 r (d1 r hr)), d2, d3, fun j hj => (d4 j hj).trans ((a4 j (by omega)).trans (layer_other _ _ _ _ (by omega)))⟩
          · have hx : RD L tx (k + 1) x = none := by
              conv => lhs; unfold RD
              rw [hi]
              simp only [show tx.size - (k + 1) = q by omega]
              rw [if_neg h7, if_neg (fun e => hh e.2)]
            rw [hx]
            obtain ⟨h1, h2⟩ := ih ((x.at_, q) :: S) rest (by rw [layer_same, hS]) hD1
            have stp : ∀ r, Wk L tx (tr.map (fun y => (y, q)) ++ rest) ((x.at_, q) :: S) r → Wk L tx ((x :: tr).map (fun y => (y, q)) ++ rest) S r := fun r hr => .set x q _ S i r hbw hi hop (by rw [if_neg (fun e => hh e.2)]; exact hr)
            refine ⟨fun ps h => stp _ (h1 ps h), fun h => ?_⟩
            obtain ⟨S2, a1, a2, a3, a4⟩ := h2 h
            exact ⟨S2, fun r hr => stp r (a1 r hr), a2, a3, fun j hj => (a4 j hj).trans (layer_other _ _ _ _ (by omega))⟩
        · obtain ⟨h1, h2⟩ := ih ((x.at_, q) :: S) rest (by rw [layer_same, hS]) hD1
          have hn : ¬ (i.op = 1 ∨ i.op = 7) := fun e => e.elim hop h7
          rw [if_neg hn, List.nil_append]
          rw [List.map_append, List.append_assoc] at h1 h2
          refine ⟨fun ps h => .go x q _ S i _ hbw hi hn (h1 ps h), fun h => ?_⟩
          obtain ⟨S2, a1, a2, a3, a4⟩ := h2 h
          exact ⟨S2, fun r hr => .go x q _ S i r hbw hi hn (a1 r hr), a2, a3, fun j hj => (a4 j hj).trans (layer_other _ _ _ _ (by omega))⟩
/-- the search from a place -/
theorem Wk_one (L : List Ins) (tx : ByteArray) (k q : Nat) (hq : q + k = tx.size) (x : Way) (r : Option (List Int)) (h : Wk L tx [(x, q)] [] r) : r = (fresh L tx.size q x).findSome? (RD L tx k) := by
  obtain ⟨S', _, hc⟩ := fresh_cl L tx.size q x
  obtain ⟨h1, h2⟩ := Wk_main L tx k q hq [x] [] _ S' hc [] [] rfl (fun j _ _ => ⟨fun a ha => by simp [layer] at ha, fun y hy => by simp [layer] at hy⟩)
  cases hr : (fresh L tx.size q x).findSome? (RD L tx k) with
  | some v => exact (h1 v hr).det h
  | none =>
    obtain ⟨S2, a1, _⟩ := h2 hr
    exact (a1 none (.nil S2)).det h
/-- places seen, each once -/
structure WOk (L : List Ins) (tx : ByteArray) (S : List (Int × Nat)) : Prop where
  nd : S.Nodup
  rg : ∀ p ∈ S, 0 ≤ p.1 ∧ p.1 < (L.length : Int) ∧ p.2 ≤ tx.size
def idx (tx : ByteArray) (p : Int × Nat) : Int := p.1 * ((tx.size : Int) + 1) + p.2
theorem idx_inj (tx : ByteArray) (p q : Int × Nat) (hp : p.2 ≤ tx.size) (hq : q.2 ≤ tx.size) (h : idx tx p = idx tx q) : p = q := by
  obtain ⟨a, b⟩ := p
  obtain ⟨c, d⟩ := q
  simp only at hp hq
  unfold idx at h
  simp only at h
  have e1 : (a * ((tx.size : Int) + 1) + b) / ((tx.size : Int) + 1) = a := by
    rw [Int.add_comm, Int.add_mul_ediv_right _ _ (by omega), Int.ediv_eq_zero_of_lt (by omega) (by omega)]; omega
  have e2 : (c * ((tx.size : Int) + 1) + d) / ((tx.size : Int) + 1) = c := by
    rw [Int.add_comm, Int.add_mul_ediv_right _ _ (by omega), Int.ediv_eq_zero_of_lt (by omega) (by omega)]; omega
  rw [h] at e1
  have e3 : a = c := by rw [← e1]; exact e2
  subst e3
  have : (b : Int) = d := by omega
  congr 1
  omega
theorem WOk.len {L : List Ins} {tx : ByteArray} {S : List (Int × Nat)} (h : WOk L tx S) : S.length ≤ L.length * (tx.size + 1) := by
  rw [← List.length_map (f := idx tx)]
  refine nodup_len _ _ ?_ ?_
  · have : ∀ S : List (Int × Nat), S.Nodup → (∀ p ∈ S, p.2 ≤ tx.size) → (S.map (idx tx)).Nodup := fun S => by
      induction S with
      | nil => intro _ _; simp
      | cons p S ih =>
        intro h1 h2
        rw [List.map_cons, List.nodup_cons]
        rw [List.nodup_cons] at h1
        refine ⟨fun hm => ?_, ih h1.2 (fun q hq => h2 q (by simp [hq]))⟩
        obtain ⟨q, hq, e⟩ := List.mem_map.1 hm
        have := idx_inj tx q p (h2 q (by simp [hq])) (h2 p (by simp)) e
        subst this
        exact h1.1 hq
    exact this S h.nd (fun p hp => (h.rg p hp).2.2)
  · intro x hx
    obtain ⟨p, hp, e⟩ := List.mem_map.1 hx
    obtain ⟨h1, h2, h3⟩ := h.rg p hp
    subst e
    unfold idx
    have h4 : 0 ≤ p.1 * ((tx.size : Int) + 1) := Int.mul_nonneg h1 (by omega)
    refine ⟨by omega, ?_⟩
    have h5 : (p.1 + 1) * ((tx.size : Int) + 1) ≤ (L.length : Int) * ((tx.size : Int) + 1) := Int.mul_le_mul_of_nonneg_right (by omega) (by omega)
    have h6 : (p.1 + 1) * ((tx.size : Int) + 1) = p.1 * ((tx.size : Int) + 1) + ((tx.size : Int) + 1) := by rw [Int.add_mul, Int.one_mul]
    push_cast
    omega
theorem walkF_total (L : List Ins) (tx : ByteArray) : ∀ (f : Nat) (st : List (Way × Nat)) (S : List (Int × Nat)), WOk L tx S → (∀ p ∈ st, p.2 ≤ tx.size) → st.length + 2 * (L.length * (tx.size + 1) - S.length) ≤ f → ∃ r, walkF L tx f st S = some r
  | 0, st, S, hS, ht, hf => by
    have : st = [] := List.eq_nil_of_length_eq_zero (by omega)
    subst this
    exact ⟨_, rfl⟩
  | f + 1, [], S, hS, ht, hf => ⟨_, rfl⟩
  | f + 1, (x, q) :: rest, S, hS, ht, hf => by
    have hq : q ≤ tx.size := ht (x, q) (by simp)
    have hr : ∀ p ∈ rest, p.2 ≤ tx.size := fun p hp => ht p (by simp [hp])
    simp only [List.length_cons] at hf
    unfold walkF
    split
    · exact walkF_total L tx f rest S hS hr (by omega)
    · rename_i hb
      have h1 : ¬ x.at_ < 0 := fun e => hb (.inl e)
      have h2 : ¬ (L.length : Int) ≤ x.at_ := fun e => hb (.inr (.inl e))
      have h3 : ¬ (x.at_, q) ∈ S := fun e => hb (.inr (.inr (by simpa using e)))
      have hN : WOk L tx ((x.at_, q) :: S) := ⟨List.nodup_cons.2 ⟨h3, hS.nd⟩, fun p hp => by
        rcases List.mem_cons.1 hp with rfl | hp
        · exact ⟨by simp only; omega, by simp only; omega, hq⟩
        · exact hS.rg p hp⟩
      have hl := hN.len
      simp only [List.length_cons] at hl
      rw [List.getElem?_eq_getElem (show x.at_.toNat < L.length by omega)]
      simp only
      split
      · exact ⟨_, rfl⟩
      · split
        · split
          · rename_i hc
            refine walkF_total L tx f _ _ hN (fun p hp => ?_) (by simp only [List.length_cons]; omega)
            rcases List.mem_cons.1 hp with rfl | hp
            · have := hc.1; simp only; omega
            · exact hr p hp
          · exact walkF_total L tx f _ _ hN hr (by simp only [List.length_cons]; omega)
        · refine walkF_total L tx f _ _ hN (fun p hp => ?_) ?_
          · rcases List.mem_append.1 hp with hp | hp
            · obtain ⟨y, _, e⟩ := List.mem_map.1 hp
              subst e
              exact hq
            · exact hr p hp
          · have := pushT_len L[x.at_.toNat] x tx.size q
            simp only [List.length_append, List.length_map, List.length_cons]
            omega
/-- rounds enough -/
def fuelW (L : List Ins) (tx : ByteArray) : Nat := 2 * (L.length * (tx.size + 1)) + 1
theorem walkF_spec (L : List Ins) (tx : ByteArray) (q : Nat) (hq : q ≤ tx.size) (x : Way) : walkF L tx (fuelW L tx) [(x, q)] [] = some ((fresh L tx.size q x).findSome? (RD L tx (tx.size - q))) := by
  obtain ⟨r, hr⟩ := walkF_total L tx (fuelW L tx) [(x, q)] [] ⟨List.nodup_nil, by simp⟩ (fun p hp => by simp at hp; subst hp; exact hq) (by unfold fuelW; simp; omega)
  rw [hr, Wk_one L tx (tx.size - q) q (by omega) x r (Wk.of_walk _ _ _ _ hr)]
end Go.Proofs.Ytldcbkememonaaa
