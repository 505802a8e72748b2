/-
  The plain law of PikeTimes.
-/
import Derived.Test.YtldcbkememonaaaJ1
namespace Go.Proofs.Ytldcbkememonaaa
open Go.RowKit
set_option linter.unusedVariables false
set_option linter.unusedSimpArgs false

theorem Cl_way' {L : List Ins} {tl p j : Nat} {S S' : List Int} {i : Ins} {ps : List Int} {r o : List Way} (hi : L[j]? = some i) (hop : i.op = 1 ∨ i.op = 7) (hS : (j : Int) ∉ S) (h : Cl L tl p r ((j : Int) :: S) o S') : Cl L tl p (⟨ps, (j : Int)⟩ :: r) S (⟨ps, (j : Int)⟩ :: o) S' := by
  have h := Cl.go (L := L) (tl := tl) (place := p) ⟨ps, (j : Int)⟩ r S o S' i (not_bad hi hS) hi (by unfold pushT; rw [if_pos hop]; exact h)
  rw [if_pos hop] at h
  exact h
theorem Cl_go' {L : List Ins} {tl p j : Nat} {S S' : List Int} {i : Ins} {ps : List Int} {r o t : List Way} (hi : L[j]? = some i) (hop : ¬ (i.op = 1 ∨ i.op = 7)) (hS : (j : Int) ∉ S) (hp : pushT i ⟨ps, (j : Int)⟩ tl p = t) (h : Cl L tl p (t ++ r) ((j : Int) :: S) o S') : Cl L tl p (⟨ps, (j : Int)⟩ :: r) S o S' := by
  have h := Cl.go (L := L) (tl := tl) (place := p) ⟨ps, (j : Int)⟩ r S o S' i (not_bad hi hS) hi (by rw [hp]; exact h)
  rw [if_neg hop] at h
  exact h
def LA : List Ins := [⟨4, 0, 0, e0⟩, ⟨2, 2, 4, e0⟩, setI 97, ⟨3, 1, 0, e0⟩, ⟨4, 1, 0, e0⟩, ⟨7, 0, 0, e0⟩]
def LQ : List Ins := [⟨4, 0, 0, e0⟩, ⟨2, 4, 2, e0⟩, setI 97, ⟨3, 1, 0, e0⟩, ⟨4, 1, 0, e0⟩, ⟨7, 0, 0, e0⟩]
def LR : List Ins := [⟨4, 0, 0, e0⟩, ⟨2, 2, 10, e0⟩, ⟨4, 2, 0, e0⟩, ⟨2, 4, 6, e0⟩, setI 97, ⟨3, 8, 0, e0⟩, setI 97, setI 97, ⟨4, 3, 0, e0⟩, ⟨3, 1, 0, e0⟩, ⟨6, 0, 0, e0⟩, ⟨4, 1, 0, e0⟩, ⟨7, 0, 0, e0⟩]
theorem comp_A : compF ⟨#[97, 42]⟩ = (0, LA, 0) := by kernel_rfl
theorem comp_Q : compF ⟨#[97, 42, 63]⟩ = (0, LQ, 0) := by kernel_rfl
theorem comp_R : compF ⟨#[40, 97, 124, 97, 97, 41, 42, 36]⟩ = (1, LR, 0) := by kernel_rfl
theorem fresh_A1 (n q : Nat) : fresh LA n q ⟨[0, -1], 3⟩ = [⟨[0, -1], ((2 : Nat) : Int)⟩, ⟨[0, (q : Int)], 5⟩] := rfl
theorem fresh_A0 (n : Nat) : fresh LA n 0 ⟨[-1, -1], 0⟩ = [⟨[0, -1], ((2 : Nat) : Int)⟩, ⟨[0, ((0 : Nat) : Int)], 5⟩] := rfl
theorem fresh_Q0 (n : Nat) : fresh LQ n 0 ⟨[-1, -1], 0⟩ = [⟨[0, 0], 5⟩, ⟨[0, -1], 2⟩] := rfl
/-- so many bytes 'a' at its head, and no more -/
structure Runs (tx : ByteArray) (all : Nat) : Prop where
  le : all ≤ tx.size
  a : ∀ k, k < all → by_ tx k = 97
  no : all < tx.size → by_ tx all ≠ 97
theorem star_at (tx : ByteArray) (all : Nat) (h : Runs tx all) : ∀ (d q : Nat), q + d = all → ([⟨[0, -1], ((2 : Nat) : Int)⟩, ⟨[0, (q : Int)], 5⟩] : List Way).findSome? (RD LA tx (tx.size - q)) = some [0, (all : Int)]
  | 0, q, hd => by
    obtain rfl : q = all := by omega
    have := h.le
    rw [List.findSome?_cons, RD_set (i := setI 97) rfl rfl h.le, if_neg (fun e => by
      have h1 := h.no e.1
      have h2 := e.2
      rw [show (setI 97).ps = bs [97, 97] from rfl, has_one 97 _ (by omega)] at h2
      simp at h2
      omega)]
    simp only
    rw [List.findSome?_cons, RD_hit (i := ⟨7, 0, 0, e0⟩) rfl rfl]
  | d + 1, q, hd => by
    have h1 := h.le
    rw [List.findSome?_cons, RD_set (i := setI 97) rfl rfl (by omega), if_pos ⟨by omega, by
      rw [show (setI 97).ps = bs [97, 97] from rfl, has_one 97 _ (by omega), h.a q (by omega)]; rfl⟩]
    rw [show (((2 + 1 : Nat)) : Int) = 3 from rfl, fresh_A1, star_at tx all h d (q + 1) (by omega)]
theorem star_find (tx : ByteArray) (all : Nat) (h : Runs tx all) : findF 0 LA tx 0 = some (some [0, (all : Int)]) := by
  rw [findF_spec _ _ _ _ (by omega)]
  have := ST_at LA tx [-1, -1] 0 (by omega)
  rw [fresh_A0, star_at tx all h all 0 (by omega)] at this
  simpa using this
theorem lazy_find (tx : ByteArray) : findF 0 LQ tx 0 = some (some [0, 0]) := by
  rw [findF_spec _ _ _ _ (by omega)]
  have := ST_at LQ tx [-1, -1] 0 (by omega)
  rw [fresh_Q0, List.findSome?_cons, RD_hit (i := ⟨7, 0, 0, e0⟩) rfl rfl] at this
  simpa using this
theorem head_no {tl q : Nat} (h : ¬ q = tl) (ps : List Int) (S : List Int) (h1 : (1 : Int) ∉ S) (h2 : (2 : Int) ∉ S) (h3 : (3 : Int) ∉ S) (h4 : (4 : Int) ∉ S) (h6 : (6 : Int) ∉ S) (h10 : (10 : Int) ∉ S) : ∃ S', Cl LR tl q [⟨ps, 1⟩] S [⟨withF ps 2 q, 4⟩, ⟨withF ps 2 q, 6⟩] S' := by
  refine ⟨10 :: 6 :: 4 :: 3 :: 2 :: 1 :: S, ?_⟩
  refine Cl_go' (j := 1) (i := ⟨2, 2, 10, e0⟩) rfl (by decide) h1 rfl ?_
  refine Cl_go' (j := 2) (i := ⟨4, 2, 0, e0⟩) rfl (by decide) (by simp; exact h2) rfl ?_
  refine Cl_go' (j := 3) (i := ⟨2, 4, 6, e0⟩) rfl (by decide) (by simp; exact h3) rfl ?_
  refine Cl_way' (j := 4) (i := setI 97) rfl (.inl rfl) (by simp; exact h4) ?_
  refine Cl_way' (j := 6) (i := setI 97) rfl (.inl rfl) (by simp; exact h6) ?_
  refine Cl_go' (j := 10) (i := ⟨6, 0, 0, e0⟩) (t := []) rfl (by decide) (by simp; exact h10) ?_ (.nil _)
  unfold pushT
  rw [if_neg (by decide), if_neg (by decide), if_neg (by decide), if_neg (by decide), if_neg (by decide), if_pos rfl, if_neg h]
theorem head_yes {tl : Nat} (ps : List Int) (S : List Int) (h1 : (1 : Int) ∉ S) (h2 : (2 : Int) ∉ S) (h3 : (3 : Int) ∉ S) (h4 : (4 : Int) ∉ S) (h6 : (6 : Int) ∉ S) (h10 : (10 : Int) ∉ S) (h11 : (11 : Int) ∉ S) (h12 : (12 : Int) ∉ S) :
    ∃ S', Cl LR tl tl [⟨ps, 1⟩] S [⟨withF ps 2 tl, 4⟩, ⟨withF ps 2 tl, 6⟩, ⟨withF ps 1 tl, 12⟩] S' := by
  refine ⟨12 :: 11 :: 10 :: 6 :: 4 :: 3 :: 2 :: 1 :: S, ?_⟩
  refine Cl_go' (j := 1) (i := ⟨2, 2, 10, e0⟩) rfl (by decide) h1 rfl ?_
  refine Cl_go' (j := 2) (i := ⟨4, 2, 0, e0⟩) rfl (by decide) (by simp; exact h2) rfl ?_
  refine Cl_go' (j := 3) (i := ⟨2, 4, 6, e0⟩) rfl (by decide) (by simp; exact h3) rfl ?_
  refine Cl_way' (j := 4) (i := setI 97) rfl (.inl rfl) (by simp; exact h4) ?_
  refine Cl_way' (j := 6) (i := setI 97) rfl (.inl rfl) (by simp; exact h6) ?_
  refine Cl_go' (j := 10) (i := ⟨6, 0, 0, e0⟩) (t := [⟨ps, ((11 : Nat) : Int)⟩]) rfl (by decide) (by simp; exact h10) ?_ ?_
  · unfold pushT
    rw [if_neg (by decide), if_neg (by decide), if_neg (by decide), if_neg (by decide), if_neg (by decide), if_pos rfl, if_pos rfl]
    rfl
  · refine Cl_go' (j := 11) (i := ⟨4, 1, 0, e0⟩) rfl (by decide) (by simp; exact h11) rfl ?_
    exact Cl_way' (j := 12) (i := ⟨7, 0, 0, e0⟩) rfl (.inr rfl) (by simp; exact h12) (.nil _)
theorem some_of {α β : Type} {f : α → Option β} {l : List α} {x : α} (hx : x ∈ l) (h : (f x).isSome = true) : (l.findSome? f).isSome = true := by
  cases hl : l.findSome? f with
  | some v => rfl
  | none =>
    rw [List.findSome?_eq_none_iff] at hl
    rw [hl x hx] at h
    cases h
theorem star_ok (tx : ByteArray) (ha : ∀ k, k < tx.size → by_ tx k = 97) : ∀ (d q : Nat) (ps : List Int), q + d = tx.size → ((fresh LR tx.size q ⟨ps, ((5 : Nat) : Int)⟩).findSome? (RD LR tx (tx.size - q))).isSome = true
  | 0, q, ps, hd => by
    obtain rfl : q = tx.size := by omega
    obtain ⟨S', hh⟩ := head_yes (tl := tx.size) (withF ps 3 tx.size) [9, 8, 5] (by decide) (by decide) (by decide) (by decide) (by decide) (by decide) (by decide) (by decide)
    have hf : fresh LR tx.size tx.size ⟨ps, ((5 : Nat) : Int)⟩ = _ := fresh_of (Cl_go' (j := 5) (i := ⟨3, 8, 0, e0⟩) rfl (by decide) (by decide) rfl (Cl_go' (j := 8) (i := ⟨4, 3, 0, e0⟩) rfl (by decide) (by decide) rfl (Cl_go' (j := 9) (i := ⟨3, 1, 0, e0⟩) rfl (by decide) (by decide) rfl hh)))
    rw [hf]
    refine some_of (x := ⟨withF (withF ps 3 tx.size) 1 tx.size, 12⟩) (by simp) ?_
    rw [RD_hit (i := ⟨7, 0, 0, e0⟩) rfl rfl]
    rfl
  | d + 1, q, ps, hd => by
    obtain ⟨S', hh⟩ := head_no (tl := tx.size) (q := q) (by omega) (withF ps 3 q) [9, 8, 5] (by decide) (by decide) (by decide) (by decide) (by decide) (by decide)
    have hf : fresh LR tx.size q ⟨ps, ((5 : Nat) : Int)⟩ = _ := fresh_of (Cl_go' (j := 5) (i := ⟨3, 8, 0, e0⟩) rfl (by decide) (by decide) rfl (Cl_go' (j := 8) (i := ⟨4, 3, 0, e0⟩) rfl (by decide) (by decide) rfl (Cl_go' (j := 9) (i := ⟨3, 1, 0, e0⟩) rfl (by decide) (by decide) rfl hh)))
    rw [hf]
    refine some_of (x := ⟨withF (withF ps 3 q) 2 q, ((4 : Nat) : Int)⟩) (by simp) ?_
    rw [RD_set (i := setI 97) rfl rfl (by omega), if_pos ⟨by omega, by
      rw [show (setI 97).ps = bs [97, 97] from rfl, has_one 97 _ (by omega), ha q (by omega)]; rfl⟩]
    exact star_ok tx ha d (q + 1) _ (by omega)
theorem star_is (tx : ByteArray) (ha : ∀ k, k < tx.size → by_ tx k = 97) : ∃ R, findF 1 LR tx 0 = some R ∧ R.isSome = true := by
  rw [findF_spec _ _ _ _ (by omega)]
  refine ⟨_, rfl, ?_⟩
  have h0 := ST_at LR tx [-1, -1, -1, -1] 0 (by omega)
  have h1 : ((fresh LR tx.size 0 ⟨[-1, -1, -1, -1], 0⟩).findSome? (RD LR tx (tx.size - 0))).isSome = true := by
    by_cases hn : tx.size = 0
    · obtain ⟨S', hh⟩ := head_yes (tl := tx.size) (withF [-1, -1, -1, -1] 0 0) [0] (by decide) (by decide) (by decide) (by decide) (by decide) (by decide) (by decide) (by decide)
      have hf : fresh LR tx.size 0 ⟨[-1, -1, -1, -1], ((0 : Nat) : Int)⟩ = _ := fresh_of (Cl_go' (j := 0) (i := ⟨4, 0, 0, e0⟩) rfl (by decide) (by decide) rfl (by
        have := hh
        rw [hn] at this
        rw [hn]
        exact this))
      rw [show (0 : Int) = ((0 : Nat) : Int) from rfl, hf]
      refine some_of (x := ⟨withF (withF [-1, -1, -1, -1] 0 0) 1 ((0 : Nat) : Int), 12⟩) (by simp) ?_
      rw [RD_hit (i := ⟨7, 0, 0, e0⟩) rfl rfl]
      rfl
    · obtain ⟨S', hh⟩ := head_no (tl := tx.size) (q := 0) (by omega) (withF [-1, -1, -1, -1] 0 ((0 : Nat) : Int)) [0] (by decide) (by decide) (by decide) (by decide) (by decide) (by decide)
      have hf : fresh LR tx.size 0 ⟨[-1, -1, -1, -1], ((0 : Nat) : Int)⟩ = _ := fresh_of (Cl_go' (j := 0) (i := ⟨4, 0, 0, e0⟩) rfl (by decide) (by decide) rfl hh)
      rw [show (0 : Int) = ((0 : Nat) : Int) from rfl, hf]
      refine some_of (x := ⟨withF (withF [-1, -1, -1, -1] 0 ((0 : Nat) : Int)) 2 ((0 : Nat) : Int), ((4 : Nat) : Int)⟩) (by simp) ?_
      rw [RD_set (i := setI 97) rfl rfl (by omega), if_pos ⟨by omega, by
        rw [show (setI 97).ps = bs [97, 97] from rfl, has_one 97 _ (by omega), ha 0 (by omega)]; rfl⟩]
      exact star_ok tx ha (tx.size - 1) 1 _ (by omega)
  have e : ST LR tx (List.replicate (2 * (1 : Int).toNat + 2) (-1)) (tx.size - (0 : Int).toNat) = ST LR tx [-1, -1, -1, -1] (tx.size - 0) := rfl
  rw [e, h0]
  cases hh : (fresh LR tx.size 0 ⟨[-1, -1, -1, -1], 0⟩).findSome? (RD LR tx (tx.size - 0)) with
  | some v => rfl
  | none => rw [hh] at h1; cases h1
end Go.Proofs.Ytldcbkememonaaa
