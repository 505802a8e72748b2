/-
  The numbers of any program of an expression are fit.
-/
import Derived.Test.YtldcbkememonaaaN5
import Derived.Test.YtldcbkememonaaaH7

namespace Go.Proofs.Ytldcbkememonaaa
open Go.RowKit
set_option linter.unusedVariables false
set_option linter.unusedSimpArgs false

theorem wfs {x : Int} (h0 : -1000000 ≤ x) (h1 : x ≤ 1000000) : wf64 x := by
  unfold wf64
  simp [Lit.wf, IntKind.min, IntKind.max, IntKind.signed, IntKind.bits]
  omega
theorem wfw (x : Int) : wf64 (wrap64 x) := wrap64_wf x
structure InsOk (i : Ins) : Prop where
  x : wf64 i.x
  y : wf64 i.y
  ps : i.ps.size ≤ 600
def AllOk (L : List Ins) : Prop := ∀ i ∈ L, InsOk i
theorem e0_ok {op x y : Int} (h0 : -1000000 ≤ x) (h1 : x ≤ 1000000) (h2 : -1000000 ≤ y) (h3 : y ≤ 1000000) : InsOk ⟨op, x, y, e0⟩ := ⟨wfs h0 h1, wfs h2 h3, by simp [e0, ByteArray.size]⟩
theorem AllOk.lay {st : RS} {i : Ins} (h : AllOk st.L) (hi : InsOk i) : AllOk (st.lay i).L := by
  intro j hj
  simp only [RS.lay, List.mem_append, List.mem_singleton] at hj
  rcases hj with hj | rfl
  · exact h j hj
  · exact hi
theorem AllOk.bad {st : RS} {e : Int} (h : AllOk st.L) : AllOk (st.bad e).L := by
  unfold RS.bad; split <;> exact h
theorem AllOk.mov {l : List Ins} (b : Int) (h : AllOk l) : AllOk (l.map (movI b)) := by
  intro j hj
  obtain ⟨i, hi, rfl⟩ := List.mem_map.1 hj
  have := h i hi
  unfold movI
  split
  · exact ⟨wfw _, wfw _, this.ps⟩
  · split
    · exact ⟨wfw _, this.y, this.ps⟩
    · exact this
theorem AllOk.put {st : RS} {l : List Ins} (h : AllOk st.L) (hl : AllOk l) : AllOk (st.put l).L := by
  intro j hj
  simp only [RS.put, List.mem_append] at hj
  rcases hj with hj | hj
  · exact h j hj
  · exact hl.mov _ j hj
theorem AllOk.take {l : List Ins} (n : Nat) (h : AllOk l) : AllOk (l.take n) := fun j hj => h j (List.mem_of_mem_take hj)
theorem AllOk.drop {l : List Ins} (n : Nat) (h : AllOk l) : AllOk (l.drop n) := fun j hj => h j (List.mem_of_mem_drop hj)
theorem AllOk.setX {l : List Ins} (j : Nat) {v : Int} (hv : wf64 v) (h : AllOk l) : AllOk (setX l j v) := by
  intro i hi
  obtain ⟨k, hk⟩ := List.mem_iff_getElem?.1 hi
  unfold Ytldcbkememonaaa.setX at hk
  rw [List.getElem?_modify] at hk
  cases hl : l[k]? with
  | none => rw [hl] at hk; cases hk
  | some a =>
    have ha := h a (List.mem_of_getElem? hl)
    rw [hl] at hk
    simp at hk
    rw [← hk]
    split
    · exact ⟨hv, ha.y, ha.ps⟩
    · exact ha
theorem pairs_len (m : Nat → Bool) : ∀ k, (pairsTo m k).length ≤ 2 * k
  | 0 => by simp [pairsTo]
  | k + 1 => by
    have := pairs_len m k
    unfold pairsTo
    simp only [List.length_append]
    have h1 : ∀ (c : Bool), (if c = true then [k] else ([] : List Nat)).length ≤ 1 := fun c => by cases c <;> simp
    have h2 := h1 (m k && (k == 0 || !m (k - 1)))
    have h3 := h1 (m k && (k == 255 || !m (k + 1)))
    omega
theorem set_ins_ok (m : Nat → Bool) : InsOk ⟨1, 0, 0, bs (pairsOf m)⟩ :=
  ⟨wfs (x := 0) (by omega) (by omega), wfs (x := 0) (by omega) (by omega), by simp only; rw [bs_size]; have := pairs_len m 256; unfold pairsOf; omega⟩
/-- what reads ways keeps the numbers fit -/
def WfAll (s : ByteArray) (wf : RS → RS) (p : Nat) : Prop := ∀ st, Good s st → st.err = 0 → st.deep ≤ 64 → p < st.at_ → AllOk st.L → AllOk (wf st).L
theorem groupF_ok (s : ByteArray) (wf : RS → RS) (st : RS) (g : Good s st) (he : st.err = 0) (hp : st.at_ < s.size) (hd : st.deep ≤ 64) (hs : s.size ≤ 10000) (hw : WfOk s wf st.at_) (hwa : WfAll s wf st.at_) (h : AllOk st.L) : AllOk (groupF s wf st).L := by
  obtain ⟨g1, g2, g3, g4, g5⟩ := g
  unfold groupF
  simp only
  cases hq : (decide (st.at_ + 1 + 1 < s.size) && by_ s (st.at_ + 1) == 63 && by_ s (st.at_ + 1 + 1) == 58) with
  | true =>
    simp only [if_true]
    have hq2 : st.at_ + 2 < s.size := by
      simp only [Bool.and_eq_true, decide_eq_true_eq] at hq
      exact hq.1.1
    by_cases hdd : 64 < st.deep + 1
    · rw [if_pos hdd]
      exact AllOk.bad h
    · rw [if_neg hdd]
      have h3 := hwa { st with at_ := st.at_ + 1 + 2, deep := st.deep + 1 } ⟨by (try simp only); omega, by (try simp only); omega, g3, by (try simp only); omega, by (try simp only); omega⟩ he (by (try simp only); omega) (by (try simp only); omega) h
      obtain ⟨X, hX⟩ : ∃ X, X = wf { st with at_ := st.at_ + 1 + 2, deep := st.deep + 1 } := ⟨_, rfl⟩
      rw [← hX] at h3 ⊢
      split
      · exact h3
      · split
        · exact AllOk.bad h3
        · exact h3
  | false =>
    simp only [Bool.false_eq_true, if_false]
    by_cases hdd : 64 < st.deep + 1
    · rw [if_pos hdd]
      exact AllOk.bad h
    · rw [if_neg hdd]
      have hl : AllOk (RS.lay { st with at_ := st.at_ + 1, deep := st.deep + 1, grp := st.grp + 1 } ⟨4, 2 * ((st.grp + 1 : Nat) : Int), 0, e0⟩).L := AllOk.lay h (e0_ok (by omega) (by omega) (by omega) (by omega))
      have h3 := hwa (RS.lay { st with at_ := st.at_ + 1, deep := st.deep + 1, grp := st.grp + 1 } ⟨4, 2 * ((st.grp + 1 : Nat) : Int), 0, e0⟩) ⟨by simp only [RS.lay]; omega, by simp only [RS.lay, List.length_append, List.length_singleton]; omega, by simp [RS.lay], by simp only [RS.lay]; omega, by simp only [RS.lay]; omega⟩ he (by simp only [RS.lay]; omega) (by simp only [RS.lay]; omega) hl
      obtain ⟨X, hX⟩ : ∃ X, X = wf (RS.lay { st with at_ := st.at_ + 1, deep := st.deep + 1, grp := st.grp + 1 } ⟨4, 2 * ((st.grp + 1 : Nat) : Int), 0, e0⟩) := ⟨_, rfl⟩
      rw [← hX] at h3 ⊢
      split
      · exact h3
      · split
        · exact AllOk.bad h3
        · exact AllOk.lay (st := { X with at_ := X.at_ + 1, deep := X.deep - 1 }) h3 (e0_ok (by omega) (by omega) (by omega) (by omega))
theorem atomF_ok (s : ByteArray) (wf : RS → RS) (st : RS) (g : Good s st) (he : st.err = 0) (hp : st.at_ < s.size) (hd : st.deep ≤ 64) (hs : s.size ≤ 10000) (hw : WfOk s wf st.at_) (hwa : WfAll s wf st.at_) (h : AllOk st.L) : AllOk (atomF s wf st).L := by
  unfold atomF
  simp only
  split
  · exact groupF_ok s wf st g he hp hd hs hw hwa h
  · split
    · exact AllOk.lay (st := { st with at_ := st.at_ + 1 }) h (e0_ok (by omega) (by omega) (by omega) (by omega))
    · split
      · exact AllOk.lay (st := { st with at_ := st.at_ + 1 }) h (e0_ok (by omega) (by omega) (by omega) (by omega))
      · cases setF s st.at_ with
        | mk o q =>
          cases o with
          | none => exact AllOk.bad (st := { st with at_ := q }) h
          | some m => exact AllOk.lay (st := { st with at_ := q }) h (set_ins_ok m)
theorem splitOf_ok (c : Nat) (lz : Bool) (fr n : Nat) (h1 : fr ≤ 100000) (h2 : n ≤ 100000) : InsOk (splitOf c lz fr n) := by
  unfold splitOf
  simp only
  split <;> (apply e0_ok) <;> (repeat' split) <;> omega
theorem pieceF_ok (s : ByteArray) (wf : RS → RS) (st : RS) (g : Good s st) (he : st.err = 0) (hp : st.at_ < s.size) (hd : st.deep ≤ 64) (hs : s.size ≤ 10000) (hw : WfOk s wf st.at_) (hwa : WfAll s wf st.at_) (h : AllOk st.L) : AllOk (pieceF s wf st).L := by
  unfold pieceF
  simp only
  have ha := atomF_adv s wf st g he hp hd hw
  have hk := atomF_ok s wf st g he hp hd hs hw hwa h
  obtain ⟨X, hX⟩ : ∃ X, X = atomF s wf st := ⟨_, rfl⟩
  rw [← hX] at ha hk ⊢
  obtain ⟨x1, x2, x3, x4, x5, x6, x7⟩ := ha.1
  obtain ⟨g1, g2, g3, g4, g5⟩ := g
  have hsp : ∀ c lz, InsOk (splitOf c lz st.L.length ((X.L.drop st.L.length).map (movI (-(st.L.length : Int)))).length) := fun c lz => splitOf_ok c lz _ _ (by omega) (by rw [List.length_map, List.length_drop]; omega)
  have hdr : AllOk ((X.L.drop st.L.length).map (movI (-(st.L.length : Int)))) := (hk.drop _).mov _
  have htk : AllOk (X.L.take st.L.length) := hk.take _
  split
  · exact hk
  · split
    · split
      · exact AllOk.lay (AllOk.put (st := { X with at_ := _, L := X.L.take st.L.length }) htk hdr) (hsp _ _)
      · split
        · exact AllOk.lay (AllOk.put (AllOk.lay (st := { X with at_ := _, L := X.L.take st.L.length }) htk (hsp _ _)) hdr) (e0_ok (by omega) (by omega) (by omega) (by omega))
        · exact AllOk.put (AllOk.lay (st := { X with at_ := _, L := X.L.take st.L.length }) htk (hsp _ _)) hdr
    · exact hk
theorem rowF_ok (s : ByteArray) (wf : RS → RS) (hs : s.size ≤ 10000) : ∀ (k : Nat) (st : RS), Good s st → st.deep ≤ 64 → (∀ p, st.at_ ≤ p → p < s.size → WfOk s wf p ∧ WfAll s wf p) → AllOk st.L → AllOk (rowF s wf k st).L
  | 0, st, g, _, _, h => h
  | k + 1, st, g, hd, hw, h => by
    unfold rowF
    split
    · rename_i hg
      obtain ⟨he, hlt⟩ := rowGo_of hg
      have ha := pieceF_adv s wf st g he hlt hd (hw _ (Nat.le_refl _) hlt).1
      have hk := pieceF_ok s wf st g he hlt hd hs (hw _ (Nat.le_refl _) hlt).1 (hw _ (Nat.le_refl _) hlt).2 h
      by_cases he2 : (pieceF s wf st).err = 0
      · exact rowF_ok s wf hs k (pieceF s wf st) (ha.1.good g) (by rw [ha.1.same he2]; exact hd) (fun p hp hps => hw p (Nat.le_trans ha.1.at_ hp) hps) hk
      · have hf : rowF s wf k (pieceF s wf st) = pieceF s wf st := by
          cases k with
          | zero => rfl
          | succ k =>
            unfold rowF
            rw [if_neg]
            unfold rowGo
            simp [he2]
        rw [hf]
        exact hk
    · exact h
theorem waysF_ok (s : ByteArray) (hs : s.size ≤ 10000) : ∀ (n : Nat) (st : RS), Good s st → st.deep ≤ 64 → st.err = 0 → AllOk st.L → AllOk (waysF s n st).L
  | 0, st, g, _, _, h => h
  | n + 1, st, g, hd, he, h => by
    unfold waysF
    simp only
    have hw : ∀ p, st.at_ ≤ p → p < s.size → WfOk s (waysF s n) p ∧ WfAll s (waysF s n) p := fun p _ _ => ⟨fun st' g' he' hd' _ => waysF_adv s n st' g' hd' he', fun st' g' he' hd' _ h' => waysF_ok s hs n st' g' hd' he' h'⟩
    have ha := rowF_adv s (waysF s n) (s.size + 1) st g hd (fun p h1 h2 => (hw p h1 h2).1)
    have hk := rowF_ok s (waysF s n) hs (s.size + 1) st g hd hw h
    obtain ⟨X, hX⟩ : ∃ X, X = rowF s (waysF s n) (s.size + 1) st := ⟨_, rfl⟩
    rw [← hX] at ha hk ⊢
    split
    · exact hk
    · rename_i hne
      have he1 : X.err = 0 := by
        by_cases h0 : X.err = 0
        · exact h0
        · exact absurd (Or.inl h0) hne
      have hm : moreF s X.at_ 124 = true := by
        cases h0 : moreF s X.at_ 124 with
        | true => rfl
        | false => exact absurd (Or.inr h0) hne
      have hlt := moreF_lt hm
      obtain ⟨x1, x2, x3, x4, x5, x6, x7⟩ := ha
      have hsame := x6 he1
      obtain ⟨g1, g2, g3, g4, g5⟩ := g
      have hdr : AllOk ((X.L.drop st.L.length).map (movI (-(st.L.length : Int)))) := (hk.drop _).mov _
      have htk : AllOk (X.L.take st.L.length) := hk.take _
      have hdl : ((X.L.drop st.L.length).map (movI (-(st.L.length : Int)))).length ≤ 30000 := by rw [List.length_map, List.length_drop]; omega
      obtain ⟨Y, hY⟩ : ∃ Y, Y = ((RS.lay { X with at_ := X.at_ + 1, L := X.L.take st.L.length } ⟨2, (st.L.length : Nat) + 1, (st.L.length : Nat) + 2 + (((X.L.drop st.L.length).map (movI (-(st.L.length : Int)))).length : Nat), e0⟩).put ((X.L.drop st.L.length).map (movI (-(st.L.length : Int))))).lay ⟨3, 0, 0, e0⟩ := ⟨_, rfl⟩
      have hYk : AllOk Y.L := by
        rw [hY]
        exact AllOk.lay (AllOk.put (AllOk.lay (st := { X with at_ := X.at_ + 1, L := X.L.take st.L.length }) htk (e0_ok (by omega) (by omega) (by omega) (by omega))) hdr) (e0_ok (by omega) (by omega) (by omega) (by omega))
      have y1 : Y.at_ = X.at_ + 1 := by rw [hY]; rfl
      have y2 : Y.err = 0 := by rw [hY]; exact he1
      have y3 : Y.deep = X.deep := by rw [hY]; rfl
      have y4 : Y.L.length = X.L.length + 2 := by
        rw [hY]
        simp only [RS.lay, RS.put, List.length_append, List.length_map, List.length_drop, List.length_take, List.length_singleton]
        omega
      have y5 : Y.grp = X.grp := by rw [hY]; rfl
      have gY : Good s Y := ⟨by omega, by omega, by omega, by omega, by omega⟩
      have h2 := waysF_adv s n Y gY (by omega) y2
      have h3 := waysF_ok s hs n Y gY (by omega) y2 hYk
      rw [← hY]
      obtain ⟨z1, z2, z3, z4, z5, z6, z7⟩ := h2
      exact AllOk.setX _ (wfs (by omega) (by omega)) h3
/-- the program of any expression -/
theorem comp_lok (s : ByteArray) (hs : s.size ≤ 10000) : LOk (compF s).2.1 ∧ (compF s).2.1.length ≤ 1024 := by
  have key : AllOk (compF s).2.1 ∧ (compF s).2.1.length ≤ 1024 := by
    unfold compF
    split
    · exact ⟨fun i hi => (by cases hi), by simp⟩
    · simp only
      have h0 := waysF_ok s hs (s.size + 1) ⟨0, 0, 0, 0, [⟨4, 0, 0, e0⟩]⟩ ⟨Nat.zero_le _, by simp, by simp, by simp, Nat.le_refl _⟩ (by simp) rfl (fun i hi => by
        simp at hi
        subst hi
        exact e0_ok (by omega) (by omega) (by omega) (by omega))
      obtain ⟨X, hX⟩ : ∃ X, X = waysF s (s.size + 1) ⟨0, 0, 0, 0, [⟨4, 0, 0, e0⟩]⟩ := ⟨_, rfl⟩
      rw [← hX] at h0 ⊢
      obtain ⟨Y, hY⟩ : ∃ Y, Y = if X.err = 0 ∧ X.at_ < s.size then X.bad 8 else X := ⟨_, rfl⟩
      have hk : AllOk Y.L := by
        rw [hY]
        split
        · exact AllOk.bad h0
        · exact h0
      rw [← hY]
      obtain ⟨Z, hZ⟩ : ∃ Z, Z = (Y.lay ⟨4, 1, 0, e0⟩).lay ⟨7, 0, 0, e0⟩ := ⟨_, rfl⟩
      have hz : AllOk Z.L := by
        rw [hZ]
        exact AllOk.lay (AllOk.lay hk (e0_ok (by omega) (by omega) (by omega) (by omega))) (e0_ok (by omega) (by omega) (by omega) (by omega))
      rw [← hZ]
      split
      · exact ⟨fun i hi => (by cases hi), by simp⟩
      · split
        · exact ⟨fun i hi => (by cases hi), by simp⟩
        · rename_i hl
          exact ⟨hz, by show Z.L.length ≤ 1024; omega⟩
  exact ⟨⟨fun i hi => ⟨(key.1 i hi).x, (key.1 i hi).y⟩, fun i hi => by have := (key.1 i hi).ps; omega, by have := key.2; omega⟩, key.2⟩
/-- 'of' at any expression -/
theorem of_any (s : ByteArray) (hs : s.size ≤ 10000) (w : World) : Calls Try.prog 16 #[.string s] w (OfP s w) :=
  of16_any s w hs (set_any s hs) (by have := (comp_lok s hs).2; omega)
end Go.Proofs.Ytldcbkememonaaa
