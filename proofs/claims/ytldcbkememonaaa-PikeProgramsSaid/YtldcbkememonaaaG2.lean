/-
  The plain law of pike: its Find is the first place from which a walk meets a Match.
-/
import Derived.Test.YtldcbkememonaaaG1
import Derived.Test.YtldcbkememonaaaF3
namespace Go.Proofs.Ytldcbkememonaaa
open Go.RowKit
set_option linter.unusedVariables false
set_option linter.unusedSimpArgs false

/-- the ways behind a start -/
def fresh (L : List Ins) (tl place : Nat) (x : Way) : List Way := match addsF L tl place (fuelA L) [x] [] [] with
  | some R => R.1
  | none => []
theorem fresh_cl (L : List Ins) (tl place : Nat) (x : Way) : ∃ S', addsF L tl place (fuelA L) [x] [] [] = some (fresh L tl place x, S') ∧ Cl L tl place [x] [] (fresh L tl place x) S' := by
  obtain ⟨R, hR, _⟩ := addsF_one L tl place x.ps.length x [] [] (AOk.nil L _) rfl
  have hf : fresh L tl place x = R.1 := by unfold fresh; rw [hR]
  obtain ⟨o, h1, h2⟩ := Cl.of_adds _ _ _ _ R hR
  refine ⟨R.2, by rw [hf]; exact hR, ?_⟩
  rw [hf, h1]
  exact h2
/-- what a way leads to, with so many places left -/
def RD (L : List Ins) (tx : ByteArray) : Nat → Way → Option (List Int)
  | 0, x => match L[x.at_.toNat]? with
    | none => none
    | some i => if i.op = 7 then some x.ps else none
  | k + 1, x => match L[x.at_.toNat]? with
    | none => none
    | some i => if i.op = 7 then some x.ps else if i.op = 1 ∧ hasF i.ps (by_ tx (tx.size - (k + 1))) = true then (fresh L tx.size (tx.size - k) ⟨x.ps, x.at_ + 1⟩).findSome? (RD L tx k) else none
theorem RD_hit {L : List Ins} {tx : ByteArray} {k : Nat} {x : Way} {i : Ins} (hi : L[x.at_.toNat]? = some i) (h : i.op = 7) : RD L tx k x = some x.ps := by
  cases k <;> simp [RD, hi, h]
theorem RD_non {L : List Ins} {tx : ByteArray} {k : Nat} {x : Way} {i : Ins} (hi : L[x.at_.toNat]? = some i) (h : ¬ (i.op = 1 ∨ i.op = 7)) : RD L tx k x = none := by
  have h1 : ¬ i.op = 1 := fun e => h (.inl e)
  have h2 : ¬ i.op = 7 := fun e => h (.inr e)
  cases k <;> simp [RD, hi, h1, h2]
theorem map_none {f : Way → Option (List Int)} (hf : ∀ x y : Way, x.at_ = y.at_ → f x = none → f y = none) {o o2 : List Way} (h : o2.map (·.at_) = o.map (·.at_)) (hn : o.findSome? f = none) : o2.findSome? f = none := by
  rw [List.findSome?_eq_none_iff] at hn ⊢
  intro y hy
  have h1 : y.at_ ∈ o2.map (·.at_) := List.mem_map.2 ⟨y, hy, rfl⟩
  rw [h] at h1
  obtain ⟨x, hx, e⟩ := List.mem_map.1 h1
  exact hf x y e (hn x hx)
theorem fresh_at (L : List Ins) (tl place : Nat) (x y : Way) (h : x.at_ = y.at_) : (fresh L tl place y).map (·.at_) = (fresh L tl place x).map (·.at_) := by
  obtain ⟨S1, _, h1⟩ := fresh_cl L tl place x
  obtain ⟨S2, _, h2⟩ := fresh_cl L tl place y
  obtain ⟨o2, h3, h4⟩ := h1.at [y] (by simp [h])
  rw [← (h2.det h3).1]
  exact h4
theorem RD_none (L : List Ins) (tx : ByteArray) : ∀ (k : Nat) (x y : Way), x.at_ = y.at_ → RD L tx k x = none → RD L tx k y = none
  | 0, x, y, h, hn => by
    unfold RD at hn ⊢
    rw [← h]
    split at hn
    · rfl
    · rename_i i h1
      split at hn
      · cases hn
      · rename_i h2; rw [if_neg h2]
  | k + 1, x, y, h, hn => by
    unfold RD at hn ⊢
    rw [← h]
    split at hn
    · rfl
    · rename_i i h1
      split at hn
      · cases hn
      · rename_i h2
        rw [if_neg h2]
        split at hn
        · rename_i h3
          rw [if_pos h3]
          exact map_none (RD_none L tx k) (fresh_at L _ _ ⟨x.ps, x.at_ + 1⟩ ⟨y.ps, x.at_ + 1⟩ rfl) hn
        · rename_i h3; rw [if_neg h3]
/-- ways and what was seen of them -/
structure Ivs (L : List Ins) (tl place : Nat) (ws : List Way) (S : List Int) : Prop where
  cl : Closed L tl place S
  mem : ∀ a ∈ S, (∃ x ∈ ws, x.at_ = a) ∨ ∃ i, L[a.toNat]? = some i ∧ ¬ (i.op = 1 ∨ i.op = 7)
  wy : ∀ x ∈ ws, 0 ≤ x.at_ ∧ ∃ i, L[x.at_.toNat]? = some i ∧ (i.op = 1 ∨ i.op = 7)
theorem Ivs.nil (L : List Ins) (tl place : Nat) : Ivs L tl place [] [] := ⟨fun a ha => by (cases ha), fun a ha => by (cases ha), fun a ha => by (cases ha)⟩
theorem Ivs.add {L : List Ins} {tl place : Nat} {ws o : List Way} {S S' : List Int} {x : Way} (h : Ivs L tl place ws S) (hc : Cl L tl place [x] S o S') : Ivs L tl place (ws ++ o) S' := by
  refine ⟨hc.closed (fun a ha i ps hi y hy => ?_), fun a ha => ?_, fun y hy => ?_⟩
  · rcases h.cl a ha i ps hi y hy with h1 | h1 | h1
    · exact .inl h1
    · exact .inr (.inl h1)
    · exact .inr (.inr (.inl h1))
  · rcases hc.mem.1 a ha with h1 | ⟨y, hy, e⟩ | h1
    · rcases h.mem a h1 with ⟨y, hy, e⟩ | h2
      · exact .inl ⟨y, by simp [hy], e⟩
      · exact .inr h2
    · exact .inl ⟨y, by simp [hy], e⟩
    · exact .inr h1
  · rcases List.mem_append.1 hy with h1 | h1
    · exact h.wy y h1
    · exact hc.mem.2 y h1
theorem dead_of {L : List Ins} {tx : ByteArray} {k : Nat} {ws : List Way} {S : List Int} (hm : ∀ a ∈ S, (∃ x ∈ ws, x.at_ = a) ∨ ∃ i, L[a.toNat]? = some i ∧ ¬ (i.op = 1 ∨ i.op = 7)) (hn : ws.findSome? (RD L tx k) = none) :
    ∀ y : Way, y.at_ ∈ S → RD L tx k y = none := by
  intro y hy
  rcases hm _ hy with ⟨x, hx, e⟩ | ⟨i, hi, hop⟩
  · rw [List.findSome?_eq_none_iff] at hn
    exact RD_none L tx k x y e (hn x hx)
  · exact RD_non hi hop
/-- seen ways that lead nowhere do not matter -/
theorem share_dead {L : List Ins} {tx : ByteArray} {k place : Nat} {o : List Way} {S S' : List Int} {x : Way} (hC : Closed L tx.size place S) (hd : ∀ y : Way, y.at_ ∈ S → RD L tx k y = none) (hc : Cl L tx.size place [x] S o S') :
    o.findSome? (RD L tx k) = (fresh L tx.size place x).findSome? (RD L tx k) := by
  obtain ⟨S2, _, h2⟩ := fresh_cl L tx.size place x
  obtain ⟨o2, T', h3, h4, _⟩ := h2.share hC (RD L tx k) hd [x] S (Del.refl _ _ _) (fun a => by simp)
  rw [← (hc.det h3).1]
  exact h4
theorem share_one {L : List Ins} {tx : ByteArray} {k place : Nat} {ws o : List Way} {S S' : List Int} {x : Way} (h : Ivs L tx.size place ws S) (hc : Cl L tx.size place [x] S o S') :
    (ws ++ o).findSome? (RD L tx k) = (ws.findSome? (RD L tx k)).or ((fresh L tx.size place x).findSome? (RD L tx k)) := by
  rw [List.findSome?_append]
  cases hn : ws.findSome? (RD L tx k) with
  | some v => simp
  | none =>
    rw [Option.none_or, Option.none_or]
    exact share_dead h.cl (dead_of h.mem hn) hc
theorem step_spec {L : List Ins} {tx : ByteArray} {k : Nat} (hk : k + 1 ≤ tx.size) : ∀ (ws0 ws : List Way) (S : List Int) (R : List Way × List Int × Option (List Int)), stepF L tx (tx.size - (k + 1)) ws0 ws S = some R → Ivs L tx.size (tx.size - k) ws S →
    (∀ x ∈ ws0, ∃ i, L[x.at_.toNat]? = some i ∧ (i.op = 1 ∨ i.op = 7)) → Ivs L tx.size (tx.size - k) R.1 R.2.1 ∧ (R.1.findSome? (RD L tx k)).or R.2.2 = (ws.findSome? (RD L tx k)).or (ws0.findSome? (RD L tx (k + 1)))
  | [], ws, S, R, h, hI, _ => by
    unfold stepF at h
    injection h with h; subst h
    exact ⟨hI, by simp⟩
  | x :: rest, ws, S, R, h, hI, hw => by
    obtain ⟨i, hi, hop⟩ := hw x (by simp)
    have hr : ∀ y ∈ rest, ∃ i, L[y.at_.toNat]? = some i ∧ (i.op = 1 ∨ i.op = 7) := fun y hy => hw y (by simp [hy])
    have e : tx.size - (k + 1) + 1 = tx.size - k := by omega
    have hlt : tx.size - (k + 1) < tx.size := by omega
    unfold stepF at h
    rw [hi] at h
    simp only [e] at h
    by_cases h7 : i.op = 7
    · rw [if_pos h7] at h
      injection h with h; subst h
      refine ⟨hI, ?_⟩
      rw [List.findSome?_cons, RD_hit hi h7]
    · rw [if_neg h7] at h
      have h1 : i.op = 1 := hop.resolve_right h7
      by_cases hh : hasF i.ps (by_ tx (tx.size - (k + 1))) = true
      · rw [if_pos ⟨hlt, hh⟩] at h
        split at h
        · cases h
        · rename_i r hr1
          obtain ⟨o, ho, hc⟩ := Cl.of_adds _ _ _ _ r hr1
          have hI2 := hI.add hc
          rw [← ho] at hI2
          obtain ⟨g1, g2⟩ := step_spec hk rest r.1 r.2 R h hI2 hr
          refine ⟨g1, ?_⟩
          rw [g2, ho, share_one hI hc, Option.or_assoc, List.findSome?_cons]
          have hx : RD L tx (k + 1) x = (fresh L tx.size (tx.size - k) ⟨x.ps, x.at_ + 1⟩).findSome? (RD L tx k) := by
            conv => lhs; unfold RD
            rw [hi]
            simp only
            rw [if_neg h7, if_pos ⟨h1, hh⟩]
          rw [hx]
          cases (fresh L tx.size (tx.size - k) ⟨x.ps, x.at_ + 1⟩).findSome? (RD L tx k) <;> simp
      · rw [if_neg (fun q => hh q.2)] at h
        obtain ⟨g1, g2⟩ := step_spec hk rest ws S R h hI hr
        refine ⟨g1, ?_⟩
        have hx : RD L tx (k + 1) x = none := by
          conv => lhs; unfold RD
          rw [hi]
          simp only
          rw [if_neg h7, if_neg (fun q => hh q.2)]
        rw [g2, List.findSome?_cons, hx]
theorem step_last {L : List Ins} {tx : ByteArray} {place : Nat} (hp : tx.size ≤ place) : ∀ (ws0 ws : List Way) (S : List Int) (R : List Way × List Int × Option (List Int)), stepF L tx place ws0 ws S = some R →
    (∀ x ∈ ws0, ∃ i, L[x.at_.toNat]? = some i ∧ (i.op = 1 ∨ i.op = 7)) → R.2.2 = ws0.findSome? (RD L tx 0)
  | [], ws, S, R, h, _ => by
    unfold stepF at h
    injection h with h; subst h
    rfl
  | x :: rest, ws, S, R, h, hw => by
    obtain ⟨i, hi, hop⟩ := hw x (by simp)
    unfold stepF at h
    rw [hi] at h
    simp only at h
    by_cases h7 : i.op = 7
    · rw [if_pos h7] at h
      injection h with h; subst h
      rw [List.findSome?_cons, RD_hit hi h7]
    · rw [if_neg h7, if_neg (fun q => by have := q.1; omega)] at h
      rw [step_last hp rest ws S R h (fun y hy => hw y (by simp [hy])), List.findSome?_cons]
      have hx : RD L tx 0 x = none := by
        unfold RD
        rw [hi]
        simp only
        rw [if_neg h7]
      rw [hx]
/-- the first place from which a walk meets a Match, with so many places left -/
def ST (L : List Ins) (tx : ByteArray) (nw : List Int) : Nat → Option (List Int)
  | 0 => (fresh L tx.size tx.size ⟨nw, 0⟩).findSome? (RD L tx 0)
  | k + 1 => ((fresh L tx.size (tx.size - (k + 1)) ⟨nw, 0⟩).findSome? (RD L tx (k + 1))).or (ST L tx nw k)
theorem findG_round {L : List Ins} {tx : ByteArray} {nw : List Int} {k : Nat} {ws : List Way} {S : List Int} {fd res : Option (List Int)} (h : findG L tx nw (k + 1) ws S fd = some res) :
    (fd.isSome = true ∧ ws = [] ∧ res = fd) ∨ ∃ ws1 S1 R, (fd = none ∧ addsF L tx.size (tx.size - k) (fuelA L) [⟨nw, 0⟩] ws S = some (ws1, S1) ∨ fd.isSome = true ∧ ws1 = ws ∧ S1 = S) ∧
      stepF L tx (tx.size - k) ws1 [] [] = some R ∧ findG L tx nw k R.1 R.2.1 (if R.2.2.isSome then R.2.2 else fd) = some res := by
  unfold findG at h
  cases fd with
  | none =>
    simp only [Option.isNone_none, if_true, Option.isSome_none, Bool.and_false] at h
    right
    split at h
    · cases h
    · rename_i ws1 S1 h1
      split at h
      · simp_all
      · split at h
        · cases h
        · rename_i ws2 S2 mt h2
          exact ⟨ws1, S1, (ws2, S2, mt), .inl ⟨rfl, h1⟩, h2, h⟩
  | some v =>
    simp only [Option.isNone_some, Option.isSome_some, Bool.and_true] at h
    split at h
    · rename_i h1; simp at h1
    · rename_i ws1 S1 h1
      simp at h1
      obtain ⟨rfl, rfl⟩ := h1
      split at h
      · rename_i h2
        left
        injection h with h
        exact ⟨rfl, by simpa using h2, h.symm⟩
      · right
        split at h
        · cases h
        · rename_i ws2 S2 mt h2
          exact ⟨ws, S, (ws2, S2, mt), .inr ⟨rfl, rfl, rfl⟩, h2, h⟩
theorem findG_spec {L : List Ins} {tx : ByteArray} {nw : List Int} : ∀ (k : Nat), k ≤ tx.size → ∀ (ws : List Way) (S : List Int) (fd res : Option (List Int)), findG L tx nw (k + 1) ws S fd = some res → Ivs L tx.size (tx.size - k) ws S →
    res = (ws.findSome? (RD L tx k)).or (if fd.isSome then fd else ST L tx nw k) := by
  have start : ∀ (k : Nat) (ws ws1 : List Way) (S S1 : List Int) (fd : Option (List Int)), Ivs L tx.size (tx.size - k) ws S → (fd = none ∧ addsF L tx.size (tx.size - k) (fuelA L) [⟨nw, 0⟩] ws S = some (ws1, S1) ∨ fd.isSome = true ∧ ws1 = ws ∧ S1 = S) →
      Ivs L tx.size (tx.size - k) ws1 S1 ∧ ws1.findSome? (RD L tx k) = (ws.findSome? (RD L tx k)).or (if fd.isSome then none else (fresh L tx.size (tx.size - k) ⟨nw, 0⟩).findSome? (RD L tx k)) := fun k ws ws1 S S1 fd hI h => by
    rcases h with ⟨rfl, h⟩ | ⟨h, rfl, rfl⟩
    · obtain ⟨o, ho, hc⟩ := Cl.of_adds _ _ _ _ _ h
      simp only at ho hc
      have h2 := hI.add hc
      have h3 := share_one (k := k) hI hc
      rw [← ho] at h2 h3
      exact ⟨h2, by simpa using h3⟩
    · rw [if_pos h]
      exact ⟨hI, by simp⟩
  intro k
  induction k with
  | zero =>
    intro hk ws S fd res h hI
    rcases findG_round h with ⟨h1, rfl, rfl⟩ | ⟨ws1, S1, R, h1, h2, h3⟩
    · simp [h1]
    · obtain ⟨g1, g2⟩ := start 0 ws ws1 S S1 fd hI h1
      have g3 := step_last (by omega) _ _ _ _ h2 (fun x hx => (g1.wy x hx).2)
      unfold findG at h3
      injection h3 with h3
      rw [g3, g2] at h3
      rw [← h3]
      rw [show tx.size - 0 = tx.size from rfl] at *
      unfold ST
      cases hf : fd with
      | none => cases hw : ws.findSome? (RD L tx 0) <;> cases hq : (fresh L tx.size tx.size ⟨nw, 0⟩).findSome? (RD L tx 0) <;> simp
      | some v => cases hw : ws.findSome? (RD L tx 0) <;> simp
  | succ k ih =>
    intro hk ws S fd res h hI
    rcases findG_round h with ⟨h1, rfl, rfl⟩ | ⟨ws1, S1, R, h1, h2, h3⟩
    · simp [h1]
    · obtain ⟨g1, g2⟩ := start (k + 1) ws ws1 S S1 fd hI h1
      obtain ⟨g3, g4⟩ := step_spec hk _ _ _ _ h2 (Ivs.nil _ _ _) (fun x hx => (g1.wy x hx).2)
      rw [ih (by omega) _ _ _ _ h3 g3]
      simp only [List.findSome?_nil, Option.none_or] at g4
      rw [g2] at g4
      rw [show ST L tx nw (k + 1) = ((fresh L tx.size (tx.size - (k + 1)) ⟨nw, 0⟩).findSome? (RD L tx (k + 1))).or (ST L tx nw k) from rfl]
      cases hf : fd with
      | none =>
        rw [hf] at g4
        simp only [Option.isSome_none, if_false, Bool.false_eq_true] at g4 ⊢
        rw [← Option.or_assoc, ← g4]
        cases hr : R.1.findSome? (RD L tx k) <;> cases hm : R.2.2 <;> simp
      | some v =>
        rw [hf] at g4
        simp only [Option.isSome_some, if_true, Option.or_none] at g4 ⊢
        rw [← g4]
        cases hr : R.1.findSome? (RD L tx k) <;> cases hm : R.2.2 <;> simp
theorem findG_total {L : List Ins} {tx : ByteArray} {nw : List Int} : ∀ (k : Nat) (ws : List Way) (S : List Int) (fd : Option (List Int)), AOk L nw.length ws S → (∀ ps, fd = some ps → ps.length = nw.length) → ∃ res, findG L tx nw k ws S fd = some res ∧ ∀ ps, res = some ps → ps.length = nw.length
  | 0, ws, S, fd, _, hf => ⟨fd, rfl, hf⟩
  | k + 1, ws, S, fd, hA, hf => by
    have h1 : ∃ R, (if fd.isNone then addsF L tx.size (tx.size - k) (fuelA L) [⟨nw, 0⟩] ws S else some (ws, S)) = some R ∧ AOk L nw.length R.1 R.2 := by
      split
      · exact addsF_one L tx.size (tx.size - k) nw.length ⟨nw, 0⟩ ws S hA rfl
      · exact ⟨_, rfl, hA⟩
    obtain ⟨R, hR, hA1⟩ := h1
    unfold findG
    rw [hR]
    simp only
    split
    · exact ⟨fd, rfl, hf⟩
    · obtain ⟨R2, hR2⟩ := stepF_total L tx (tx.size - k) nw.length R.1 [] [] (AOk.nil L _) (fun y hy => ⟨(hA1.wy y hy).1, (hA1.wy y hy).2.1, (hA1.wy y hy).2.2⟩)
      obtain ⟨h3, h4⟩ := stepF_ok L tx (tx.size - k) nw.length R.1 [] [] R2 hR2 (AOk.nil L _) (fun y hy => (hA1.wy y hy).2.2)
      rw [hR2]
      refine findG_total k R2.1 R2.2.1 _ h3 (fun ps hps => ?_)
      split at hps
      · exact h4 ps hps
      · exact hf ps hps
/-- pike's Find -/
theorem findF_spec (gr : Int) (L : List Ins) (tx : ByteArray) (from_ : Int) (h : ¬ (from_ < 0 ∨ (tx.size : Int) < from_ ∨ gr < 0 ∨ 1024 < gr)) : findF gr L tx from_ = some (ST L tx (List.replicate (2 * gr.toNat + 2) (-1)) (tx.size - from_.toNat)) := by
  unfold findF
  rw [if_neg h]
  have e : tx.size + 1 - from_.toNat = (tx.size - from_.toNat) + 1 := by omega
  rw [e]
  obtain ⟨res, hr, _⟩ := findG_total (L := L) (tx := tx) (nw := List.replicate (2 * gr.toNat + 2) (-1)) ((tx.size - from_.toNat) + 1) [] [] none (AOk.nil L _) (fun ps h => by cases h)
  rw [hr, findG_spec _ (by omega) _ _ _ _ hr (Ivs.nil _ _ _)]
  simp
end Go.Proofs.Ytldcbkememonaaa
