/-
  What the readers keep: plain.
-/
import Derived.Test.YtldcbkememonaaaRx

namespace Go.Proofs.Ytldcbkememonaaa

theorem strokeF_in (s : ByteArray) (p : Nat) (hp : p ≤ s.size) : p ≤ (strokeF s p).2 ∧ (strokeF s p).2 ≤ s.size ∧ ((strokeF s p).1.isSome = true → p < (strokeF s p).2) := by
  unfold strokeF
  split
  · simp only
    split
    · simp; omega
    · split <;> (try simp) <;> (try omega)
  · simp; omega
theorem itemF_in (s : ByteArray) (p : Nat) (hp : p ≤ s.size) : p ≤ (itemF s p).2 ∧ (itemF s p).2 ≤ s.size ∧ ((itemF s p).1.isSome = true → p < (itemF s p).2) := by
  unfold itemF
  split
  · split
    · exact strokeF_in s p hp
    · simp; omega
  · simp; omega
theorem moreF_lt {s : ByteArray} {p c : Nat} (h : moreF s p c = true) : p < s.size := by
  unfold moreF at h
  simp at h
  exact h.1
theorem classTo_in (s : ByteArray) : ∀ (k : Nat) (f : Bool) (p : Nat) (m : Nat → Bool), p ≤ s.size → p ≤ (classTo s k f p m).2 ∧ (classTo s k f p m).2 ≤ s.size ∧ ((classTo s k f p m).1.isSome = true → moreF s (classTo s k f p m).2 93 = true)
  | 0, f, p, m, hp => by simp [classTo, hp]
  | k + 1, f, p, m, hp => by
    unfold classTo
    split
    · have hi := itemF_in s p hp
      cases hit : itemF s p with
      | mk o q =>
        rw [hit] at hi
        cases o with
        | none => simp at hi ⊢; exact ⟨hi.1, hi.2⟩
        | some it =>
          simp only at hi ⊢
          split
          · rename_i hc
            have hq : q + 1 < s.size := by
              simp only [Bool.and_eq_true, decide_eq_true_eq] at hc
              exact hc.1.1.2
            have hj := itemF_in s (q + 1) (by omega)
            cases hit2 : itemF s (q + 1) with
            | mk o2 q2 =>
              rw [hit2] at hj
              cases o2 with
              | none => simp at hj ⊢; omega
              | some it2 =>
                simp only at hj ⊢
                split
                · simp; omega
                · have := classTo_in s k false q2 (addM m none it.a it2.a) hj.2.1
                  exact ⟨by omega, this.2⟩
          · have := classTo_in s k false q (addM m it.six it.a it.a) hi.2.1
            exact ⟨by omega, this.2⟩
    · rename_i hc
      simp at hc
      exact ⟨Nat.le_refl _, hp, fun _ => hc.2⟩
theorem classF_in (s : ByteArray) (p : Nat) (hp : p < s.size) : p ≤ (classF s p).2 ∧ (classF s p).2 ≤ s.size ∧ ((classF s p).1.isSome = true → p < (classF s p).2) := by
  unfold classF
  simp only
  have hp1 : (if moreF s (p + 1) 94 then p + 2 else p + 1) ≤ s.size ∧ p < (if moreF s (p + 1) 94 then p + 2 else p + 1) := by
    split
    · rename_i h
      have := moreF_lt h
      omega
    · omega
  have h := classTo_in s (s.size + 1) true (if moreF s (p + 1) 94 then p + 2 else p + 1) (fun _ => false) hp1.1
  cases hc : classTo s (s.size + 1) true (if moreF s (p + 1) 94 then p + 2 else p + 1) (fun _ => false) with
  | mk o q =>
    rw [hc] at h
    cases o with
    | none => simp at h ⊢; omega
    | some m =>
      simp at h ⊢
      have := moreF_lt h.2.2
      omega
theorem setF_in (s : ByteArray) (p : Nat) (hp : p < s.size) : p ≤ (setF s p).2 ∧ (setF s p).2 ≤ s.size ∧ ((setF s p).1.isSome = true → p < (setF s p).2) := by
  unfold setF
  simp only
  split
  · simp; omega
  · split
    · exact classF_in s p hp
    · split
      · have h := strokeF_in s p (by omega)
        cases hs : strokeF s p with
        | mk o q =>
          rw [hs] at h
          cases o with
          | none => simp at h ⊢; omega
          | some it => simp at h ⊢; omega
      · split
        · simp; omega
        · simp; omega

/-- a state that may be -/
structure Good (s : ByteArray) (st : RS) : Prop where
  at_ : st.at_ ≤ s.size
  len : st.L.length ≤ 2 * st.at_ + 1
  pos : 0 < st.L.length
  deep : st.deep ≤ 65
  grp : st.grp ≤ st.at_
/-- a state that comes behind another -/
structure Adv (s : ByteArray) (a b : RS) : Prop where
  at_ : a.at_ ≤ b.at_
  size : b.at_ ≤ s.size
  len : a.L.length ≤ b.L.length
  grow : b.L.length + 2 * a.at_ ≤ a.L.length + 2 * b.at_
  deep : b.deep ≤ 65
  same : b.err = 0 → b.deep = a.deep
  grp : b.grp + a.at_ ≤ a.grp + b.at_
theorem Adv.good {s : ByteArray} {a b : RS} (h : Adv s a b) (g : Good s a) : Good s b :=
  ⟨h.size, by have := h.grow; have := g.len; have := h.at_; omega, by have := h.len; have := g.pos; omega, h.deep, by have := h.grp; have := g.grp; have := h.at_; omega⟩
theorem Adv.refl {s : ByteArray} {a : RS} (g : Good s a) : Adv s a a := ⟨Nat.le_refl _, g.at_, Nat.le_refl _, Nat.le_refl _, g.deep, fun _ => rfl, Nat.le_refl _⟩
theorem Adv.trans {s : ByteArray} {a b c : RS} (h : Adv s a b) (k : Adv s b c) (hb : c.err = 0 → b.err = 0) : Adv s a c :=
  ⟨Nat.le_trans h.at_ k.at_, k.size, Nat.le_trans h.len k.len, by have := h.grow; have := k.grow; omega, k.deep, fun e => (k.same e).trans (h.same (hb e)), by have := h.grp; have := k.grp; omega⟩
/-- what reads ways keeps -/
def WfOk (s : ByteArray) (wf : RS → RS) (p : Nat) : Prop := ∀ st, Good s st → st.err = 0 → st.deep ≤ 64 → p < st.at_ → Adv s st (wf st)
theorem groupF_adv (s : ByteArray) (wf : RS → RS) (st : RS) (g : Good s st) (he : st.err = 0) (hp : st.at_ < s.size) (hd : st.deep ≤ 64) (hw : WfOk s wf st.at_) :
    Adv s st (groupF s wf st) ∧ st.at_ < (groupF s wf st).at_ := by
  obtain ⟨g1, g2, g3, g4, g5⟩ := g
  unfold groupF
  simp only
  cases hq : (decide (st.at_ + 1 + 1 < s.size) && by_ s (st.at_ + 1) == 63 && by_ s (st.at_ + 1 + 1) == 58) with
  | true =>
    simp only [if_true]
    have hq2 : st.at_ + 2 < s.size := by
      simp only [Bool.and_eq_true, decide_eq_true_eq] at hq
      exact hq.1.1
    by_cases hdd : 64 < st.deep + 1
    · rw [if_pos hdd]
      unfold RS.bad
      rw [if_pos he]
      exact ⟨⟨by (try simp only); omega, by (try simp only); omega, Nat.le_refl _, by (try simp only); omega, by (try simp only); omega, fun h => by simp at h, by (try simp only); omega⟩, by (try simp only); omega⟩
    · rw [if_neg hdd]
      obtain ⟨X, hX⟩ : ∃ X, X = wf { st with at_ := st.at_ + 1 + 2, deep := st.deep + 1 } := ⟨_, rfl⟩
      have h3 := hw { st with at_ := st.at_ + 1 + 2, deep := st.deep + 1 } ⟨by (try simp only); omega, by (try simp only); omega, g3, by (try simp only); omega, by (try simp only); omega⟩ he (by (try simp only); omega) (by (try simp only); omega)
      rw [← hX] at h3 ⊢
      obtain ⟨x1, x2, x3, x4, x5, x6, x7⟩ := h3
      simp only at x1 x2 x3 x4 x5 x6 x7
      by_cases he3 : X.err ≠ 0
      · rw [if_pos he3]
        exact ⟨⟨by omega, x2, x3, by omega, x5, fun h => absurd h he3, by omega⟩, by omega⟩
      · rw [if_neg he3]
        have he4 : X.err = 0 := by omega
        cases hm : moreF s X.at_ 41 with
        | false =>
          simp only [Bool.not_false, if_true]
          unfold RS.bad
          rw [if_pos he4]
          exact ⟨⟨by (try simp only); omega, x2, x3, by (try simp only); omega, x5, fun h => by simp at h, by (try simp only); omega⟩, by (try simp only); omega⟩
        | true =>
          have hl := moreF_lt hm
          have := x6 he4
          simp only [Bool.not_true, Bool.false_eq_true, if_false]
          exact ⟨⟨by (try simp only); omega, by (try simp only); omega, x3, by (try simp only); omega, by (try simp only); omega, fun _ => by (try simp only); omega, by (try simp only); omega⟩, by (try simp only); omega⟩
  | false =>
    simp only [Bool.false_eq_true, if_false]
    by_cases hdd : 64 < st.deep + 1
    · rw [if_pos hdd]
      unfold RS.bad
      rw [if_pos he]
      exact ⟨⟨by (try simp only); omega, by (try simp only); omega, Nat.le_refl _, by (try simp only); omega, by (try simp only); omega, fun h => by simp at h, by (try simp only); omega⟩, by (try simp only); omega⟩
    · rw [if_neg hdd]
      obtain ⟨X, hX⟩ : ∃ X, X = wf (RS.lay { st with at_ := st.at_ + 1, deep := st.deep + 1, grp := st.grp + 1 } ⟨4, 2 * ((st.grp + 1 : Nat) : Int), 0, e0⟩) := ⟨_, rfl⟩
      have h3 := hw (RS.lay { st with at_ := st.at_ + 1, deep := st.deep + 1, grp := st.grp + 1 } ⟨4, 2 * ((st.grp + 1 : Nat) : Int), 0, e0⟩) ⟨by simp only [RS.lay]; omega, by simp only [RS.lay, List.length_append, List.length_singleton]; omega, by simp [RS.lay], by simp only [RS.lay]; omega, by simp only [RS.lay]; omega⟩ he (by simp only [RS.lay]; omega) (by simp only [RS.lay]; omega)
      rw [← hX] at h3 ⊢
      obtain ⟨x1, x2, x3, x4, x5, x6, x7⟩ := h3
      simp only [RS.lay, List.length_append, List.length_singleton] at x1 x2 x3 x4 x5 x6 x7
      by_cases he3 : X.err ≠ 0
      · rw [if_pos he3]
        exact ⟨⟨by omega, x2, by omega, by omega, x5, fun h => absurd h he3, by omega⟩, by omega⟩
      · rw [if_neg he3]
        have he4 : X.err = 0 := by omega
        cases hm : moreF s X.at_ 41 with
        | false =>
          simp only [Bool.not_false, if_true]
          unfold RS.bad
          rw [if_pos he4]
          exact ⟨⟨by (try simp only); omega, x2, by (try simp only); omega, by (try simp only); omega, x5, fun h => by simp at h, by (try simp only); omega⟩, by (try simp only); omega⟩
        | true =>
          have hl := moreF_lt hm
          have := x6 he4
          simp only [Bool.not_true, Bool.false_eq_true, if_false, RS.lay]
          refine ⟨⟨?_, ?_, ?_, ?_, ?_, fun _ => ?_, ?_⟩, ?_⟩ <;> (try simp) <;> (try omega)
theorem bad_adv {s : ByteArray} {st : RS} {q : Nat} (g : Good s st) (he : st.err = 0) (e : Int) (h0 : e ≠ 0) (h1 : st.at_ ≤ q) (h2 : q ≤ s.size) : Adv s st (RS.bad { st with at_ := q } e) := by
  obtain ⟨g1, g2, g3, g4, g5⟩ := g
  unfold RS.bad
  rw [if_pos he]
  exact ⟨by (try simp only); omega, by (try simp only); omega, Nat.le_refl _, by (try simp only); omega, by (try simp only); omega, fun h => absurd h h0, by (try simp only); omega⟩
theorem lay_adv {s : ByteArray} {st : RS} {q : Nat} (g : Good s st) (i : Ins) (h1 : st.at_ < q) (h2 : q ≤ s.size) : Adv s st (RS.lay { st with at_ := q } i) := by
  obtain ⟨g1, g2, g3, g4, g5⟩ := g
  unfold RS.lay
  refine ⟨?_, ?_, ?_, ?_, ?_, fun _ => rfl, ?_⟩ <;> (try simp) <;> (try omega)
theorem atomF_adv (s : ByteArray) (wf : RS → RS) (st : RS) (g : Good s st) (he : st.err = 0) (hp : st.at_ < s.size) (hd : st.deep ≤ 64) (hw : WfOk s wf st.at_) :
    Adv s st (atomF s wf st) ∧ ((atomF s wf st).err = 0 → st.at_ < (atomF s wf st).at_) := by
  unfold atomF
  simp only
  split
  · have := groupF_adv s wf st g he hp hd hw
    exact ⟨this.1, fun _ => this.2⟩
  · split
    · exact ⟨lay_adv g _ (by omega) (by omega), fun _ => by simp [RS.lay]⟩
    · split
      · exact ⟨lay_adv g _ (by omega) (by omega), fun _ => by simp [RS.lay]⟩
      · have h := setF_in s st.at_ hp
        cases hs : setF s st.at_ with
        | mk o q =>
          rw [hs] at h
          cases o with
          | none =>
            simp at h
            refine ⟨bad_adv g he 8 (by omega) h.1 h.2, fun h => ?_⟩
            unfold RS.bad at h
            simp [he] at h
          | some m =>
            simp at h
            exact ⟨lay_adv g _ h.2.2 h.2.1, fun _ => by simp only [RS.lay]; omega⟩
theorem map_len (L : List Ins) (b : Int) : (L.map (movI b)).length = L.length := List.length_map _
theorem pieceF_adv (s : ByteArray) (wf : RS → RS) (st : RS) (g : Good s st) (he : st.err = 0) (hp : st.at_ < s.size) (hd : st.deep ≤ 64) (hw : WfOk s wf st.at_) :
    Adv s st (pieceF s wf st) ∧ ((pieceF s wf st).err = 0 → st.at_ < (pieceF s wf st).at_) := by
  unfold pieceF
  simp only
  have h := atomF_adv s wf st g he hp hd hw
  obtain ⟨X, hX⟩ : ∃ X, X = atomF s wf st := ⟨_, rfl⟩
  rw [← hX] at h ⊢
  split
  · exact h
  · rename_i hne
    have he1 : X.err = 0 := by
      by_cases h0 : X.err = 0
      · exact h0
      · exact absurd (Or.inl h0) hne
    have hlt : X.at_ < s.size := by
      have := h.1.size
      by_cases h0 : X.at_ = s.size
      · exact absurd (Or.inr h0) hne
      · omega
    have hat := h.2 he1
    obtain ⟨x1, x2, x3, x4, x5, x6, x7⟩ := h.1
    have hsame := x6 he1
    split
    · have hlz : (if moreF s (X.at_ + 1) 63 = true then X.at_ + 2 else X.at_ + 1) ≤ s.size ∧ X.at_ < (if moreF s (X.at_ + 1) 63 = true then X.at_ + 2 else X.at_ + 1) := by
        split
        · rename_i hm
          have := moreF_lt hm
          omega
        · omega
      obtain ⟨q, hq⟩ : ∃ q, q = (if moreF s (X.at_ + 1) 63 = true then X.at_ + 2 else X.at_ + 1) := ⟨_, rfl⟩
      rw [← hq] at hlz ⊢
      split
      · refine ⟨⟨?_, ?_, ?_, ?_, ?_, fun _ => ?_, ?_⟩, fun _ => ?_⟩ <;> simp only [RS.lay, RS.put, List.length_append, List.length_map, List.length_drop, List.length_take, List.length_singleton] <;> omega
      · split
        · refine ⟨⟨?_, ?_, ?_, ?_, ?_, fun _ => ?_, ?_⟩, fun _ => ?_⟩ <;> simp only [RS.lay, RS.put, List.length_append, List.length_map, List.length_drop, List.length_take, List.length_singleton] <;> omega
        · refine ⟨⟨?_, ?_, ?_, ?_, ?_, fun _ => ?_, ?_⟩, fun _ => ?_⟩ <;> simp only [RS.lay, RS.put, List.length_append, List.length_map, List.length_drop, List.length_take, List.length_singleton] <;> omega
    · exact h
theorem rowGo_of {s : ByteArray} {st : RS} (h : rowGo s st = true) : st.err = 0 ∧ st.at_ < s.size := by
  unfold rowGo at h
  simp at h
  exact ⟨h.1.1.1, h.1.1.2⟩
theorem rowF_adv (s : ByteArray) (wf : RS → RS) : ∀ (k : Nat) (st : RS), Good s st → st.deep ≤ 64 → (∀ p, st.at_ ≤ p → p < s.size → WfOk s wf p) → Adv s st (rowF s wf k st)
  | 0, st, g, _, _ => Adv.refl g
  | k + 1, st, g, hd, hw => by
    unfold rowF
    split
    · rename_i hg
      obtain ⟨he, hlt⟩ := rowGo_of hg
      have h := pieceF_adv s wf st g he hlt hd (hw _ (Nat.le_refl _) hlt)
      by_cases he2 : (pieceF s wf st).err = 0
      · have ih := rowF_adv s wf k (pieceF s wf st) (h.1.good g) (by rw [h.1.same he2]; exact hd) (fun p hp hps => hw p (Nat.le_trans h.1.at_ hp) hps)
        exact h.1.trans ih (fun _ => he2)
      · have hf : rowF s wf k (pieceF s wf st) = pieceF s wf st := by
          cases k with
          | zero => rfl
          | succ k =>
            unfold rowF
            rw [if_neg]
            unfold rowGo
            simp [he2]
        rw [hf]
        exact h.1
    · exact Adv.refl g
theorem setX_len (L : List Ins) (j : Nat) (v : Int) : (setX L j v).length = L.length := by unfold setX; simp
theorem waysF_adv (s : ByteArray) : ∀ (n : Nat) (st : RS), Good s st → st.deep ≤ 64 → st.err = 0 → Adv s st (waysF s n st)
  | 0, st, g, _, _ => Adv.refl g
  | n + 1, st, g, hd, he => by
    unfold waysF
    simp only
    have hw : ∀ p, st.at_ ≤ p → p < s.size → WfOk s (waysF s n) p := fun p _ _ st' g' he' hd' _ => waysF_adv s n st' g' hd' he'
    have h := rowF_adv s (waysF s n) (s.size + 1) st g hd hw
    obtain ⟨X, hX⟩ : ∃ X, X = rowF s (waysF s n) (s.size + 1) st := ⟨_, rfl⟩
    rw [← hX] at h ⊢
    split
    · exact h
    · rename_i hne
      have he1 : X.err = 0 := by
        by_cases h0 : X.err = 0
        · exact h0
        · exact absurd (Or.inl h0) hne
      have hm : moreF s X.at_ 124 = true := by
        cases h0 : moreF s X.at_ 124 with
        | true => rfl
        | false => exact absurd (Or.inr h0) hne
      have hlt := moreF_lt hm
      obtain ⟨x1, x2, x3, x4, x5, x6, x7⟩ := h
      have hsame := x6 he1
      obtain ⟨g1, g2, g3, g4, g5⟩ := g
      obtain ⟨Y, hY⟩ : ∃ Y, Y = ((RS.lay { X with at_ := X.at_ + 1, L := X.L.take st.L.length } ⟨2, (st.L.length : Nat) + 1, (st.L.length : Nat) + 2 + (((X.L.drop st.L.length).map (movI (-(st.L.length : Int)))).length : Nat), e0⟩).put ((X.L.drop st.L.length).map (movI (-(st.L.length : Int))))).lay ⟨3, 0, 0, e0⟩ := ⟨_, rfl⟩
      have y1 : Y.at_ = X.at_ + 1 := by rw [hY]; rfl
      have y2 : Y.err = 0 := by rw [hY]; exact he1
      have y3 : Y.deep = X.deep := by rw [hY]; rfl
      have y4 : Y.L.length = X.L.length + 2 := by
        rw [hY]
        simp only [RS.lay, RS.put, List.length_append, List.length_map, List.length_drop, List.length_take, List.length_singleton]
        omega
      have y5 : Y.grp = X.grp := by rw [hY]; rfl
      have h2 := waysF_adv s n Y ⟨by omega, by omega, by omega, by omega, by omega⟩ (by omega) y2
      rw [← hY]
      obtain ⟨z1, z2, z3, z4, z5, z6, z7⟩ := h2
      refine ⟨?_, z2, ?_, ?_, z5, fun e => ?_, ?_⟩
      · show st.at_ ≤ (waysF s n Y).at_; omega
      · show st.L.length ≤ (setX (waysF s n Y).L _ _).length; rw [setX_len]; omega
      · show (setX (waysF s n Y).L _ _).length + 2 * st.at_ ≤ st.L.length + 2 * (waysF s n Y).at_; rw [setX_len]; omega
      · show (waysF s n Y).deep = st.deep; have := z6 e; omega
      · show (waysF s n Y).grp + st.at_ ≤ st.grp + (waysF s n Y).at_; omega
end Go.Proofs.Ytldcbkememonaaa
