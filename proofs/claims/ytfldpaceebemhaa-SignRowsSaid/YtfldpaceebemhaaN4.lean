/-
  Insertion as a plain function; the drawn region of graticuleref17.Names.
-/
import Derived.Test.YtfldpaceebemhaaAppS
import Derived.Test.YtfldpaceebemhaaPhiR
namespace Go.Proofs.Ytfldpaceebemhaa
open Go.RowKit

theorem own_at {w : World} {B e n cap g : Nat} {xs : List Value} : w.ownsRow B e 1 (.slice (some ⟨g, 0, none⟩) n cap) n xs ↔
    (xs.length = n ∧ B ≤ g ∧ ∃ cur, w.heap[g]? = some (.cells cur e (0, 0)) ∧ n ≤ cap ∧ cap ≤ maxLen ∧ cur.size = cap ∧ cur.toList.take n = xs) := by
  constructor
  · rintro ⟨h0, h⟩
    rcases h with ⟨h1, _⟩ | ⟨g', cap', cur, h1, h2, h3, h4, h5, h6, h7⟩
    · cases h1
    · injection h1 with h1 _ hc
      injection h1 with h1
      injection h1 with h1 _ _
      subst h1 hc
      exact ⟨by simpa using h0, h2, cur, h3, h4, h5, by simpa using h6, by simpa using h7⟩
  · rintro ⟨h0, h2, cur, h3, h4, h5, h6, h7⟩
    exact ⟨by simpa using h0, .inr ⟨g, cap, cur, rfl, h2, h3, h4, h5, by simpa using h6, by simpa using h7⟩⟩
theorem own_form {w : World} {B e n : Nat} {v : Value} {xs : List Value} (h : w.ownsRow B e 1 v n xs) : v = .slice none 0 0 ∧ n = 0 ∨ ∃ g cap, v = .slice (some ⟨g, 0, none⟩) n cap := by
  rcases h.2 with ⟨h1, h2⟩ | ⟨g, cap, cur, h1, _⟩
  · exact .inl ⟨h1, h2⟩
  · exact .inr ⟨g, cap, h1⟩

/-- what each operation of the region yields -/
def Ph (B1 : Nat) (l r SL : Value) (j i gr : Nat) (x : ByteArray) (Lj : List Value) (k : Nat) (v : Value) (w : World) : Prop := match k with
  | 0 => (∃ g, v = .slice (some ⟨g, 0, none⟩) 0 0) ∧ w.ownsRow B1 9 1 v 0 []
  | 1 => v = l
  | 2 => v = .int .i64 j
  | 3 => v = SL
  | 4 => w.ownsRow B1 9 1 v j Lj
  | 5 => v = r
  | 6 => v = .int .i64 i
  | 7 => v = .pointer (some ⟨gr, i, none⟩)
  | 8 => v = .string x
  | 9 => ∃ g, v = .slice (some ⟨g, 0, none⟩) 1 1 ∧ g < w.heap.size ∧ w.cell? ⟨g, 0, none⟩ = some (.string x)
  | 10 => w.ownsRow B1 9 1 v (j + 1) (Lj ++ [.string x])
  | 11 => w.ownsRow B1 9 1 v (j + 1) (Lj ++ [.string x])
  | _ => True
variable {B1 : Nat} {l r SL : Value} {j i gr : Nat} {x : ByteArray} {Lj : List Value}
theorem Ph.grow {k : Nat} {v : Value} {w w' : World} (hb : Grow w w') (h : Ph B1 l r SL j i gr x Lj k v w) : Ph B1 l r SL j i gr x Lj k v w' := by
  unfold Ph at *
  split at h <;> try exact h
  · exact ⟨h.1, own_grow h.2 hb⟩
  · exact own_grow h hb
  · obtain ⟨g, h1, h2, h3⟩ := h
    exact ⟨g, h1, Nat.lt_of_lt_of_le h2 hb.size, (Below.cell hb (p := ⟨g, 0, none⟩) h2).trans h3⟩
  · exact own_grow h hb
  · exact own_grow h hb
/-- the new row was written where it lies -/
theorem Ph.room {k : Nat} {v : Value} {w w' : World} {g cap : Nat} (hg : w.grownBy w' (some g)) (h1 : w.ownsRow B1 9 1 (.slice (some ⟨g, 0, none⟩) j cap) j Lj) (h2 : w'.ownsRow B1 9 1 (.slice (some ⟨g, 0, none⟩) (j + 1) cap) (j + 1) (Lj ++ [.string x]))
    (h : Ph B1 l r SL j i gr x Lj k v w) : Ph B1 l r SL j i gr x Lj k v w' := by
  obtain ⟨a0, a1, cur, a2, a3, a4, a5, a6⟩ := own_at.1 h1
  obtain ⟨b0, b1, cur', b2, b3, b4, b5, b6⟩ := own_at.1 h2
  have keep : ∀ (n : Nat) (u : Value) (xs : List Value), w.ownsRow B1 9 1 u n xs → u.ownBlock ≠ some g → w'.ownsRow B1 9 1 u n xs := fun n u xs hu hne => hu.kept hg (.inr hne)
  have capEq : ∀ (n cap2 : Nat) (xs : List Value), w.ownsRow B1 9 1 (.slice (some ⟨g, 0, none⟩) n cap2) n xs → cap2 = cap := fun n cap2 xs hu => by
    obtain ⟨_, _, cur2, c2, _, _, c5, _⟩ := own_at.1 hu
    rw [a2] at c2
    injection c2 with c2
    injection c2 with c2 _ _
    rw [← c2] at c5
    omega
  unfold Ph at *
  split at h <;> try exact h
  · obtain ⟨⟨g', rfl⟩, h⟩ := h
    refine ⟨⟨g', rfl⟩, keep _ _ _ h (fun e => ?_)⟩
    have e' : g' = g := by simpa [Value.ownBlock] using e
    subst e'
    have := capEq _ _ _ h
    omega
  · by_cases e : v.ownBlock = some g
    · rcases own_form h with ⟨rfl, _⟩ | ⟨g', cap2, rfl⟩
      · cases e
      · have e' : g' = g := by simpa [Value.ownBlock] using e
        subst e'
        have := capEq _ _ _ h
        subst this
        refine own_at.2 ⟨a0, a1, cur', b2, a3, a4, b5, ?_⟩
        have : cur'.toList.take j = (cur'.toList.take (j + 1)).take j := by rw [List.take_take, Nat.min_eq_left (by omega)]
        rw [this, b6, List.take_left' a0]
    · exact keep _ _ _ h e
  · obtain ⟨g', rfl, hlt, hc⟩ := h
    refine ⟨g', rfl, Nat.lt_of_lt_of_le hlt hg.size, ?_⟩
    by_cases e : g' = g
    · subst e
      rw [cell_blk a2] at hc
      rw [cell_blk b2]
      have hb : cur'[0]? = (Lj ++ [Value.string x])[0]? := by
        rw [← b6, List.getElem?_take, if_pos (by omega), Array.getElem?_toList]
      rw [hb]
      rcases Nat.eq_zero_or_pos j with h0 | h0
      · have : Lj = [] := by
          have := a0; rw [h0] at this; simpa using this
        rw [this]; rfl
      · rw [List.getElem?_append_left (by omega), ← a6, List.getElem?_take, if_pos h0, Array.getElem?_toList]
        exact hc
    · exact hg.cell hc (by simp [e])
  · by_cases e : v.ownBlock = some g
    · rcases own_form h with ⟨rfl, _⟩ | ⟨g', cap2, rfl⟩
      · cases e
      · have e' : g' = g := by simpa [Value.ownBlock] using e
        subst e'
        have := capEq _ _ _ h
        subst this
        exact h2
    · exact keep _ _ _ h e
  · by_cases e : v.ownBlock = some g
    · rcases own_form h with ⟨rfl, _⟩ | ⟨g', cap2, rfl⟩
      · cases e
      · have e' : g' = g := by simpa [Value.ownBlock] using e
        subst e'
        have := capEq _ _ _ h
        subst this
        exact h2
    · exact keep _ _ _ h e
/-- what the region's steps keep -/
def Rn (B1 : Nat) (l r SL : Value) (j i gr : Nat) (x : ByteArray) (Lj : List Value) (w w' : World) : Prop := Below B1 w w' ∧ ∀ k v, Ph B1 l r SL j i gr x Lj k v w → Ph B1 l r SL j i gr x Lj k v w'
theorem Rn.refl (w : World) : Rn B1 l r SL j i gr x Lj w w := ⟨Below.refl _ _, fun _ _ h => h⟩
theorem Rn.trans (a b c : World) (h : Rn B1 l r SL j i gr x Lj a b) (k : Rn B1 l r SL j i gr x Lj b c) : Rn B1 l r SL j i gr x Lj a c := ⟨h.1.trans k.1, fun n v hv => k.2 n v (h.2 n v hv)⟩
theorem Rn.grow {w w' : World} (hb : Grow w w') (hB : B1 ≤ w.heap.size) : Rn B1 l r SL j i gr x Lj w w' := ⟨Below.mono hb hB, fun _ _ h => h.grow hb⟩
end Go.Proofs.Ytfldpaceebemhaa
