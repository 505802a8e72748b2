/-
  The plain law of graticuleref12's walk: what its search answers is what the layers say.
-/
import Derived.Test.YtldcbkememonaaaG2
namespace Go.Proofs.Ytldcbkememonaaa
open Go.RowKit
set_option linter.unusedVariables false
set_option linter.unusedSimpArgs false

/-- the search, so many rounds; none: more are wanted -/
def walkF (L : List Ins) (tx : ByteArray) : Nat → List (Way × Nat) → List (Int × Nat) → Option (Option (List Int))
  | 0, st, _ => if st.isEmpty then some none else none
  | _ + 1, [], _ => some none
  | f + 1, (x, q) :: rest, S =>
    if x.at_ < 0 ∨ (L.length : Int) ≤ x.at_ ∨ S.contains (x.at_, q) = true then walkF L tx f rest S
    else match L[x.at_.toNat]? with
      | none => none
      | some i =>
        if i.op = 7 then some (some x.ps)
        else if i.op = 1 then walkF L tx f (if q < tx.size ∧ hasF i.ps (by_ tx q) = true then (⟨x.ps, x.at_ + 1⟩, q + 1) :: rest else rest) ((x.at_, q) :: S)
        else walkF L tx f ((pushT i x tx.size q).map (fun y => (y, q)) ++ rest) ((x.at_, q) :: S)
def BadW (L : List Ins) (S : List (Int × Nat)) (x : Way) (q : Nat) : Prop := x.at_ < 0 ∨ (L.length : Int) ≤ x.at_ ∨ S.contains (x.at_, q) = true
inductive Wk (L : List Ins) (tx : ByteArray) : List (Way × Nat) → List (Int × Nat) → Option (List Int) → Prop
  | nil (S : List (Int × Nat)) : Wk L tx [] S none
  | skip (x : Way) (q : Nat) (rest : List (Way × Nat)) (S : List (Int × Nat)) (r : Option (List Int)) : BadW L S x q → Wk L tx rest S r → Wk L tx ((x, q) :: rest) S r
  | hit (x : Way) (q : Nat) (rest : List (Way × Nat)) (S : List (Int × Nat)) (i : Ins) : ¬ BadW L S x q → L[x.at_.toNat]? = some i → i.op = 7 → Wk L tx ((x, q) :: rest) S (some x.ps)
  | set (x : Way) (q : Nat) (rest : List (Way × Nat)) (S : List (Int × Nat)) (i : Ins) (r : Option (List Int)) : ¬ BadW L S x q → L[x.at_.toNat]? = some i → i.op = 1 →
      Wk L tx (if q < tx.size ∧ hasF i.ps (by_ tx q) = true then (⟨x.ps, x.at_ + 1⟩, q + 1) :: rest else rest) ((x.at_, q) :: S) r → Wk L tx ((x, q) :: rest) S r
  | go (x : Way) (q : Nat) (rest : List (Way × Nat)) (S : List (Int × Nat)) (i : Ins) (r : Option (List Int)) : ¬ BadW L S x q → L[x.at_.toNat]? = some i → ¬ (i.op = 1 ∨ i.op = 7) →
      Wk L tx ((pushT i x tx.size q).map (fun y => (y, q)) ++ rest) ((x.at_, q) :: S) r → Wk L tx ((x, q) :: rest) S r
theorem Wk.of_walk {L : List Ins} {tx : ByteArray} : ∀ (f : Nat) (st : List (Way × Nat)) (S : List (Int × Nat)) (r : Option (List Int)), walkF L tx f st S = some r → Wk L tx st S r
  | 0, st, S, r, h => by
    unfold walkF at h
    split at h
    · rename_i h1
      injection h with h; subst h
      have : st = [] := by simpa using h1
      subst this
      exact .nil S
    · cases h
  | f + 1, [], S, r, h => by
    unfold walkF at h
    injection h with h; subst h
    exact .nil S
  | f + 1, (x, q) :: rest, S, r, h => by
    unfold walkF at h
    split at h
    · rename_i hb
      exact .skip x q rest S r hb (Wk.of_walk f _ _ r h)
    · rename_i hb
      split at h
      · cases h
      · rename_i i hi
        split at h
        · rename_i h7
          injection h with h; subst h
          exact .hit x q rest S i hb hi h7
        · rename_i h7
          split at h
          · rename_i h1
            exact .set x q rest S i r hb hi h1 (Wk.of_walk f _ _ r h)
          · rename_i h1
            exact .go x q rest S i r hb hi (fun e => e.elim h1 h7) (Wk.of_walk f _ _ r h)
theorem Wk.det {L : List Ins} {tx : ByteArray} {st : List (Way × Nat)} {S : List (Int × Nat)} {r : Option (List Int)} (h : Wk L tx st S r) : ∀ {r2 : Option (List Int)}, Wk L tx st S r2 → r2 = r := by
  induction h with
  | nil S => intro r2 k; cases k; rfl
  | skip x q rest S r hb _ ih =>
    intro r2 k
    cases k with
    | skip _ _ _ _ _ _ k => exact ih k
    | hit _ _ _ _ _ k => exact absurd hb k
    | set _ _ _ _ _ _ k => exact absurd hb k
    | go _ _ _ _ _ _ k => exact absurd hb k
  | hit x q rest S i hb hi h7 =>
    intro r2 k
    cases k with
    | skip _ _ _ _ _ k => exact absurd k hb
    | hit => rfl
    | set _ _ _ _ i2 _ _ hi2 h1 => rw [hi] at hi2; injection hi2 with hi2; subst hi2; omega
    | go _ _ _ _ i2 _ _ hi2 h1 => rw [hi] at hi2; injection hi2 with hi2; subst hi2; exact absurd (.inr h7) h1
  | set x q rest S i r hb hi h1 _ ih =>
    intro r2 k
    cases k with
    | skip _ _ _ _ _ k => exact absurd k hb
    | hit _ _ _ _ i2 _ hi2 h7 => rw [hi] at hi2; injection hi2 with hi2; subst hi2; omega
    | set _ _ _ _ i2 _ _ hi2 _ k => rw [hi] at hi2; injection hi2 with hi2; subst hi2; exact ih k
    | go _ _ _ _ i2 _ _ hi2 h2 => rw [hi] at hi2; injection hi2 with hi2; subst hi2; exact absurd (.inl h1) h2
  | go x q rest S i r hb hi h1 _ ih =>
    intro r2 k
    cases k with
    | skip _ _ _ _ _ k => exact absurd k hb
    | hit _ _ _ _ i2 _ hi2 h7 => rw [hi] at hi2; injection hi2 with hi2; subst hi2; exact absurd (.inr h7) h1
    | set _ _ _ _ i2 _ _ hi2 h2 => rw [hi] at hi2; injection hi2 with hi2; subst hi2; exact absurd (.inl h2) h1
    | go _ _ _ _ i2 _ _ hi2 _ k => rw [hi] at hi2; injection hi2 with hi2; subst hi2; exact ih k
/-- what was seen at a place -/
def layer (S : List (Int × Nat)) (q : Nat) : List Int := S.filterMap fun p => if p.2 = q then some p.1 else none
theorem layer_same (S : List (Int × Nat)) (a : Int) (q : Nat) : layer ((a, q) :: S) q = a :: layer S q := by simp [layer]
theorem layer_other (S : List (Int × Nat)) (a : Int) (q j : Nat) (h : j ≠ q) : layer ((a, q) :: S) j = layer S j := by
  have : ¬ q = j := fun e => h e.symm
  simp [layer, this]
theorem layer_mem (S : List (Int × Nat)) (a : Int) (q : Nat) : a ∈ layer S q ↔ (a, q) ∈ S := by
  unfold layer
  rw [List.mem_filterMap]
  constructor
  · rintro ⟨⟨b, j⟩, h1, h2⟩
    simp only at h2
    split at h2
    · rename_i e
      injection h2 with h2
      subst h2
      rw [← e]
      exact h1
    · cases h2
  · intro h
    exact ⟨(a, q), h, by simp⟩
theorem bad_iff (L : List Ins) (S : List (Int × Nat)) (x : Way) (q : Nat) : Bad L (layer S q) x ↔ BadW L S x q := by
  unfold Bad BadW
  simp only [List.contains_iff_mem, layer_mem]
/-- what was seen behind a place leads nowhere -/
def DeadFrom (L : List Ins) (tx : ByteArray) (S : List (Int × Nat)) (q : Nat) : Prop := ∀ j, q < j → j ≤ tx.size → Closed L tx.size j (layer S j) ∧ ∀ x : Way, x.at_ ∈ layer S j → RD L tx (tx.size - j) x = none
theorem Wk_main (L : List Ins) (tx : ByteArray) : ∀ (k q : Nat), q + k = tx.size → ∀ (todo : List Way) (T : List Int) (o : List Way) (T' : List Int), Cl L tx.size q todo T o T' → ∀ (S : List (Int × Nat)) (rest : List (Way × Nat)), layer S q = T → DeadFrom L tx S q →
    (∀ ps, o.findSome? (RD L tx k) = some ps → Wk L tx (todo.map (fun y => (y, q)) ++ rest) S (some ps)) ∧
    (o.findSome? (RD L tx k) = none → ∃ S2, (∀ r, Wk L tx rest S2 r → Wk L tx (todo.map (fun y => (y, q)) ++ rest) S r) ∧ layer S2 q = T' ∧ DeadFrom L tx S2 q ∧ ∀ j, j < q → layer S2 j = layer S j) := by
  intro k
  induction k with
  | zero =>
    intro q hq todo T o T' hc
    induction hc with
    | nil T =>
      intro S rest hS hD
      exact ⟨fun ps h => by simp at h, fun _ => ⟨S, fun r h => h, hS, hD, fun j _ => rfl⟩⟩
    | skip x tr T o T' hb _ ih =>
      intro S rest hS hD
      obtain ⟨h1, h2⟩ := ih S rest hS hD
      have hbw : BadW L S x q := (bad_iff L S x q).1 (by rw [hS]; exact hb)
      refine ⟨fun ps h => .skip x q _ S _ hbw (h1 ps h), fun h => ?_⟩
      obtain ⟨S2, a1, a2⟩ := h2 h
      exact ⟨S2, fun r hr => .skip x q _ S r hbw (a1 r hr), a2⟩
    | go x tr T o T' i hb hi _ ih =>
      intro S rest hS hD
      have hbw : ¬ BadW L S x q := fun e => hb (by rw [← hS]; exact (bad_iff L S x q).2 e)
      have hD1 : DeadFrom L tx ((x.at_, q) :: S) q := fun j h1 h2 => by rw [layer_other _ _ _ _ (by omega)]; exact hD j h1 h2
      obtain ⟨h1, h2⟩ := ih ((x.at_, q) :: S) rest (by rw [layer_same, hS]) hD1
      by_cases h7 : i.op = 7
      · rw [if_pos (.inr h7)]
        rw [List.singleton_append, List.findSome?_cons, RD_hit hi h7]
        exact ⟨fun ps h => by injection h with h; subst h; exact .hit x q _ S i hbw hi h7, fun h => by cases h⟩
      · by_cases hop : i.op = 1
        · have hp : pushT i x tx.size q = [] := by unfold pushT; rw [if_pos (.inl hop)]
          have hx : RD L tx 0 x = none := by unfold RD; rw [hi]; simp only; rw [if_neg h7]
          rw [if_pos (.inl hop), List.singleton_append, List.findSome?_cons, hx]
          rw [hp, List.nil_append] at h1 h2
          have stp : ∀ r, Wk L tx (tr.map (fun y => (y, q)) ++ rest) ((x.at_, q) :: S) r → Wk L tx ((x :: tr).map (fun y => (y, q)) ++ rest) S r := fun r hr => .set x q _ S i r hbw hi hop (by rw [if_neg (fun e => by have := e.1; omega)]; exact hr)
          refine ⟨fun ps h => stp _ (h1 ps h), fun h => ?_⟩
          obtain ⟨S2, a1, a2, a3, a4⟩ := h2 h
          exact ⟨S2, fun r hr => stp r (a1 r hr), a2, a3, fun j hj => (a4 j hj).trans (layer_other _ _ _ _ (by omega))⟩
        · have hn : ¬ (i.op = 1 ∨ i.op = 7) := fun e => e.elim hop h7
          rw [if_neg hn, List.nil_append]
          rw [List.map_append, List.append_assoc] at h1 h2
          refine ⟨fun ps h => .go x q _ S i _ hbw hi hn (h1 ps h), fun h => ?_⟩
          obtain ⟨S2, a1, a2, a3, a4⟩ := h2 h
          exact ⟨S2, fun r hr => .go x q _ S i r hbw hi hn (a1 r hr), a2, a3, fun j hj => (a4 j hj).trans (layer_other _ _ _ _ (by omega))⟩
  | succ k IH =>
    intro q hq todo T o T' hc
    induction hc with
    | nil T =>
      intro S rest hS hD
      exact ⟨fun ps h => by simp at h, fun _ => ⟨S, fun r h => h, hS, hD, fun j _ => rfl⟩⟩
    | skip x tr T o T' hb _ ih =>
      intro S rest hS hD
      obtain ⟨h1, h2⟩ := ih S rest hS hD
      have hbw : BadW L S x q := (bad_iff L S x q).1 (by rw [hS]; exact hb)
      refine ⟨fun ps h => .skip x q _ S _ hbw (h1 ps h), fun h => ?_⟩
      obtain ⟨S2, a1, a2⟩ := h2 h
      exact ⟨S2, fun r hr => .skip x q _ S r hbw (a1 r hr), a2⟩
    | go x tr T o T' i hb hi _ ih =>
      intro S rest hS hD
      have hbw : ¬ BadW L S x q := fun e => hb (by rw [← hS]; exact (bad_iff L S x q).2 e)
      have hD1 : DeadFrom L tx ((x.at_, q) :: S) q := fun j h1 h2 => by rw [layer_other _ _ _ _ (by omega)]; exact hD j h1 h2
      by_cases h7 : i.op = 7
      · rw [if_pos (.inr h7)]
        rw [List.singleton_append, List.findSome?_cons, RD_hit hi h7]
        exact ⟨fun ps h => by injection h with h; subst h; exact .hit x q _ S i hbw hi h7, fun h => by cases h⟩
      · by_cases hop : i.op = 1
        · have hp : pushT i x tx.size q = [] := by unfold pushT; rw [if_pos (.inl hop)]
          rw [hp, List.nil_append] at ih
          rw [if_pos (.inl hop), List.singleton_append, List.findSome?_cons]
          by_cases hh : hasF i.ps (by_ tx q) = true
          · have hlt : q < tx.size := by omega
            have eq1 : tx.size - k = q + 1 := by omega
            have eq2 : tx.size - (k + 1) = q := by omega
            have hx : RD L tx (k + 1) x = (fresh L tx.size (q + 1) ⟨x.ps, x.at_ + 1⟩).findSome? (RD L tx k) := by
              conv => lhs; unfold RD
              rw [hi]
              simp only [eq1, eq2]
              rw [if_neg h7, if_pos ⟨hop, hh⟩]
            have hDq := hD (q + 1) (by omega) (by omega)
            rw [show tx.size - (q + 1) = k by omega] at hDq
            obtain ⟨Sf, _, hf⟩ := fresh_cl L tx.size (q + 1) ⟨x.ps, x.at_ + 1⟩
            obtain ⟨o2, T2, hc2, ho2, hT2⟩ := hf.share hDq.1 (RD L tx k) hDq.2 [⟨x.ps, x.at_ + 1⟩] (layer S (q + 1)) (Del.refl _ _ _) (fun a => by simp)
            obtain ⟨b1, b2⟩ := IH (q + 1) (by omega) _ _ _ _ hc2 ((x.at_, q) :: S) (tr.map (fun y => (y, q)) ++ rest) (layer_other _ _ _ _ (by omega)) (fun j h1 h2 => by rw [layer_other _ _ _ _ (by omega)]; exact hD j (by omega) h2)
            have stp : ∀ r, Wk L tx ([(⟨x.ps, x.at_ + 1⟩, q + 1)] ++ (tr.map (fun y => (y, q)) ++ rest)) ((x.at_, q) :: S) r → Wk L tx ((x :: tr).map (fun y => (y, q)) ++ rest) S r := fun r hr => .set x q _ S i r hbw hi hop (by rw [if_pos ⟨hlt, hh⟩]; exact hr)
            rw [hx, ← ho2]
            cases hr : o2.findSome? (RD L tx k) with
            | some v =>
              simp only
              exact ⟨fun ps h => by injection h with h; subst h; exact stp _ (b1 _ hr), fun h => by cases h⟩
            | none =>
              simp only
              obtain ⟨S2, a1, a2, a3, a4⟩ := b2 hr
              have hDS : DeadFrom L tx S2 q := fun j h1 h2 => by
                rcases Nat.lt_or_ge (q + 1) j with h3 | h3
                · exact a3 j h3 h2
                · obtain rfl : j = q + 1 := by omega
                  rw [a2]
                  refine ⟨hc2.closed (fun a ha i2 ps hi2 y hy => ?_), ?_⟩
                  · rcases hDq.1 a ha i2 ps hi2 y hy with h | h | h
                    · exact .inl h
                    · exact .inr (.inl h)
                    · exact .inr (.inr (.inl h))
                  · rw [show tx.size - (q + 1) = k by omega]
                    intro y hy
                    rcases hc2.mem.1 _ hy with h | ⟨z, hz, e⟩ | ⟨i2, hi2, hop2⟩
                    · exact hDq.2 y h
                    · rw [List.findSome?_eq_none_iff] at hr
                      exact RD_none L tx k z y e (hr z hz)
                    · exact RD_non hi2 hop2
              have hl2 : layer S2 q = x.at_ :: T := by rw [a4 q (by omega), layer_same, hS]
              obtain ⟨c1, c2⟩ := ih S2 rest hl2 hDS
              refine ⟨fun ps h => stp _ (a1 _ (c1 ps h)), fun h => ?_⟩
              obtain ⟨S3, d1, d2, d3, d4⟩ := c2 h
              exact ⟨S3, fun r hr => stp r (a1 r (d1 r hr)), d2, d3, fun j hj => (d4 j hj).trans ((a4 j (by omega)).trans (layer_other _ _ _ _ (by omega)))⟩
          · have hx : RD L tx (k + 1) x = none := by
              conv => lhs; unfold RD
              rw [hi]
              simp only [show tx.size - (k + 1) = q by omega]
              rw [if_neg h7, if_neg (fun e => hh e.2)]
            rw [hx]
            obtain ⟨h1, h2⟩ := ih ((x.at_, q) :: S) rest (by rw [layer_same, hS]) hD1
            have stp : ∀ r, Wk L tx (tr.map (fun y => (y, q)) ++ rest) ((x.at_, q) :: S) r → Wk L tx ((x :: tr).map (fun y => (y, q)) ++ rest) S r := fun r hr => .set x q _ S i r hbw hi hop (by rw [if_neg (fun e => hh e.2)]; exact hr)
            refine ⟨fun ps h => stp _ (h1 ps h), fun h => ?_⟩
            obtain ⟨S2, a1, a2, a3, a4⟩ := h2 h
            exact ⟨S2, fun r hr => stp r (a1 r hr), a2, a3, fun j hj => (a4 j hj).trans (layer_other _ _ _ _ (by omega))⟩
        · obtain ⟨h1, h2⟩ := ih ((x.at_, q) :: S) rest (by rw [layer_same, hS]) hD1
          have hn : ¬ (i.op = 1 ∨ i.op = 7) := fun e => e.elim hop h7
          rw [if_neg hn, List.nil_append]
          rw [List.map_append, List.append_assoc] at h1 h2
          refine ⟨fun ps h => .go x q _ S i _ hbw hi hn (h1 ps h), fun h => ?_⟩
          obtain ⟨S2, a1, a2, a3, a4⟩ := h2 h
          exact ⟨S2, fun r hr => .go x q _ S i r hbw hi hn (a1 r hr), a2, a3, fun j hj => (a4 j hj).trans (layer_other _ _ _ _ (by omega))⟩
/-- the search from a place -/
theorem Wk_one (L : List Ins) (tx : ByteArray) (k q : Nat) (hq : q + k = tx.size) (x : Way) (r : Option (List Int)) (h : Wk L tx [(x, q)] [] r) : r = (fresh L tx.size q x).findSome? (RD L tx k) := by
  obtain ⟨S', _, hc⟩ := fresh_cl L tx.size q x
  obtain ⟨h1, h2⟩ := Wk_main L tx k q hq [x] [] _ S' hc [] [] rfl (fun j _ _ => ⟨fun a ha => by simp [layer] at ha, fun y hy => by simp [layer] at hy⟩)
  cases hr : (fresh L tx.size q x).findSome? (RD L tx k) with
  | some v => exact (h1 v hr).det h
  | none =>
    obtain ⟨S2, a1, _⟩ := h2 hr
    exact (a1 none (.nil S2)).det h
/-- places seen, each once -/
structure WOk (L : List Ins) (tx : ByteArray) (S : List (Int × Nat)) : Prop where
  nd : S.Nodup
  rg : ∀ p ∈ S, 0 ≤ p.1 ∧ p.1 < (L.length : Int) ∧ p.2 ≤ tx.size
def idx (tx : ByteArray) (p : Int × Nat) : Int := p.1 * ((tx.size : Int) + 1) + p.2
theorem idx_inj (tx : ByteArray) (p q : Int × Nat) (hp : p.2 ≤ tx.size) (hq : q.2 ≤ tx.size) (h : idx tx p = idx tx q) : p = q := by
  obtain ⟨a, b⟩ := p
  obtain ⟨c, d⟩ := q
  simp only at hp hq
  unfold idx at h
  simp only at h
  have e1 : (a * ((tx.size : Int) + 1) + b) / ((tx.size : Int) + 1) = a := by
    rw [Int.add_comm, Int.add_mul_ediv_right _ _ (by omega), Int.ediv_eq_zero_of_lt (by omega) (by omega)]; omega
  have e2 : (c * ((tx.size : Int) + 1) + d) / ((tx.size : Int) + 1) = c := by
    rw [Int.add_comm, Int.add_mul_ediv_right _ _ (by omega), Int.ediv_eq_zero_of_lt (by omega) (by omega)]; omega
  rw [h] at e1
  have e3 : a = c := by rw [← e1]; exact e2
  subst e3
  have : (b : Int) = d := by omega
  congr 1
  omega
theorem WOk.len {L : List Ins} {tx : ByteArray} {S : List (Int × Nat)} (h : WOk L tx S) : S.length ≤ L.length * (tx.size + 1) := by
  rw [← List.length_map (f := idx tx)]
  refine nodup_len _ _ ?_ ?_
  · have : ∀ S : List (Int × Nat), S.Nodup → (∀ p ∈ S, p.2 ≤ tx.size) → (S.map (idx tx)).Nodup := fun S => by
      induction S with
      | nil => intro _ _; simp
      | cons p S ih =>
        intro h1 h2
        rw [List.map_cons, List.nodup_cons]
        rw [List.nodup_cons] at h1
        refine ⟨fun hm => ?_, ih h1.2 (fun q hq => h2 q (by simp [hq]))⟩
        obtain ⟨q, hq, e⟩ := List.mem_map.1 hm
        have := idx_inj tx q p (h2 q (by simp [hq])) (h2 p (by simp)) e
        subst this
        exact h1.1 hq
    exact this S h.nd (fun p hp => (h.rg p hp).2.2)
  · intro x hx
    obtain ⟨p, hp, e⟩ := List.mem_map.1 hx
    obtain ⟨h1, h2, h3⟩ := h.rg p hp
    subst e
    unfold idx
    have h4 : 0 ≤ p.1 * ((tx.size : Int) + 1) := Int.mul_nonneg h1 (by omega)
    refine ⟨by omega, ?_⟩
    have h5 : (p.1 + 1) * ((tx.size : Int) + 1) ≤ (L.length : Int) * ((tx.size : Int) + 1) := Int.mul_le_mul_of_nonneg_right (by omega) (by omega)
    have h6 : (p.1 + 1) * ((tx.size : Int) + 1) = p.1 * ((tx.size : Int) + 1) + ((tx.size : Int) + 1) := by rw [Int.add_mul, Int.one_mul]
    push_cast
    omega
theorem walkF_total (L : List Ins) (tx : ByteArray) : ∀ (f : Nat) (st : List (Way × Nat)) (S : List (Int × Nat)), WOk L tx S → (∀ p ∈ st, p.2 ≤ tx.size) → st.length + 2 * (L.length * (tx.size + 1) - S.length) ≤ f → ∃ r, walkF L tx f st S = some r
  | 0, st, S, hS, ht, hf => by
    have : st = [] := List.eq_nil_of_length_eq_zero (by omega)
    subst this
    exact ⟨_, rfl⟩
  | f + 1, [], S, hS, ht, hf => ⟨_, rfl⟩
  | f + 1, (x, q) :: rest, S, hS, ht, hf => by
    have hq : q ≤ tx.size := ht (x, q) (by simp)
    have hr : ∀ p ∈ rest, p.2 ≤ tx.size := fun p hp => ht p (by simp [hp])
    simp only [List.length_cons] at hf
    unfold walkF
    split
    · exact walkF_total L tx f rest S hS hr (by omega)
    · rename_i hb
      have h1 : ¬ x.at_ < 0 := fun e => hb (.inl e)
      have h2 : ¬ (L.length : Int) ≤ x.at_ := fun e => hb (.inr (.inl e))
      have h3 : ¬ (x.at_, q) ∈ S := fun e => hb (.inr (.inr (by simpa using e)))
      have hN : WOk L tx ((x.at_, q) :: S) := ⟨List.nodup_cons.2 ⟨h3, hS.nd⟩, fun p hp => by
        rcases List.mem_cons.1 hp with rfl | hp
        · exact ⟨by simp only; omega, by simp only; omega, hq⟩
        · exact hS.rg p hp⟩
      have hl := hN.len
      simp only [List.length_cons] at hl
      rw [List.getElem?_eq_getElem (show x.at_.toNat < L.length by omega)]
      simp only
      split
      · exact ⟨_, rfl⟩
      · split
        · split
          · rename_i hc
            refine walkF_total L tx f _ _ hN (fun p hp => ?_) (by simp only [List.length_cons]; omega)
            rcases List.mem_cons.1 hp with rfl | hp
            · have := hc.1; simp only; omega
            · exact hr p hp
          · exact walkF_total L tx f _ _ hN hr (by simp only [List.length_cons]; omega)
        · refine walkF_total L tx f _ _ hN (fun p hp => ?_) ?_
          · rcases List.mem_append.1 hp with hp | hp
            · obtain ⟨y, _, e⟩ := List.mem_map.1 hp
              subst e
              exact hq
            · exact hr p hp
          · have := pushT_len L[x.at_.toNat] x tx.size q
            simp only [List.length_append, List.length_map, List.length_cons]
            omega
/-- rounds enough -/
def fuelW (L : List Ins) (tx : ByteArray) : Nat := 2 * (L.length * (tx.size + 1)) + 1
theorem walkF_spec (L : List Ins) (tx : ByteArray) (q : Nat) (hq : q ≤ tx.size) (x : Way) : walkF L tx (fuelW L tx) [(x, q)] [] = some ((fresh L tx.size q x).findSome? (RD L tx (tx.size - q))) := by
  obtain ⟨r, hr⟩ := walkF_total L tx (fuelW L tx) [(x, q)] [] ⟨List.nodup_nil, by simp⟩ (fun p hp => by simp at hp; subst hp; exact hq) (by unfold fuelW; simp; omega)
  rw [hr, Wk_one L tx (tx.size - q) q (by omega) x r (Wk.of_walk _ _ _ _ hr)]
end Go.Proofs.Ytldcbkememonaaa
