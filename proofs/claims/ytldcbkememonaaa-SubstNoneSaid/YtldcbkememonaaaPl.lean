/-
  The plain law of PikePlain: a text without signs is found just where it stands first. / The plain law of PikeTimes.
-/
import Derived.Test.YtldcbkememonaaaPh
import Derived.Test.YtldcbkememonaaaA2
namespace Go.Proofs.Ytldcbkememonaaa
open Go.RowKit
set_option linter.unusedVariables false
set_option linter.unusedSimpArgs false

theorem fresh_of {L : List Ins} {tl p : Nat} {x : Way} {o : List Way} {S' : List Int} (h : Cl L tl p [x] [] o S') : fresh L tl p x = o := by
  obtain ⟨S2, _, hc⟩ := fresh_cl L tl p x
  exact (h.det hc).1
theorem not_bad {L : List Ins} {S : List Int} {j : Nat} {i : Ins} {ps : List Int} (hi : L[j]? = some i) (hS : (j : Int) ∉ S) : ¬ Bad L S ⟨ps, (j : Int)⟩ := by
  have := (List.getElem?_eq_some_iff.1 hi).1
  rintro (h | h | h)
  · simp only at h; omega
  · simp only at h; omega
  · exact hS (by simpa using h)
theorem Cl_way {L : List Ins} {tl p j : Nat} {S : List Int} {i : Ins} {ps : List Int} (hi : L[j]? = some i) (hop : i.op = 1 ∨ i.op = 7) (hS : (j : Int) ∉ S) : Cl L tl p [⟨ps, (j : Int)⟩] S [⟨ps, (j : Int)⟩] ((j : Int) :: S) := by
  have h := Cl.go (L := L) (tl := tl) (place := p) ⟨ps, (j : Int)⟩ [] S [] ((j : Int) :: S) i (not_bad hi hS) hi (by unfold pushT; rw [if_pos hop]; exact .nil _)
  rw [if_pos hop] at h
  exact h
theorem Cl_save {L : List Ins} {tl p j : Nat} {S S' : List Int} {i : Ins} {ps : List Int} {o : List Way} (hi : L[j]? = some i) (hop : i.op = 4) (hS : (j : Int) ∉ S) (h : Cl L tl p [⟨withF ps i.x p, ((j + 1 : Nat) : Int)⟩] ((j : Int) :: S) o S') : Cl L tl p [⟨ps, (j : Int)⟩] S o S' := by
  have h := Cl.go (L := L) (tl := tl) (place := p) ⟨ps, (j : Int)⟩ [] S o S' i (not_bad hi hS) hi (by
    have e : pushT i ⟨ps, (j : Int)⟩ tl p = [⟨withF ps i.x p, ((j + 1 : Nat) : Int)⟩] := by
      unfold pushT
      rw [if_neg (by omega), if_neg (by omega), if_neg (by omega), if_pos hop]
      push_cast
      rfl
    rw [e]
    exact h)
  rw [if_neg (by omega)] at h
  exact h
theorem ST_at (L : List Ins) (tx : ByteArray) (nw : List Int) (p : Nat) (h : p ≤ tx.size) :
    ST L tx nw (tx.size - p) = ((fresh L tx.size p ⟨nw, 0⟩).findSome? (RD L tx (tx.size - p))).or (if p < tx.size then ST L tx nw (tx.size - (p + 1)) else none) := by
  by_cases h1 : p < tx.size
  · rw [if_pos h1]
    obtain ⟨k, hk⟩ : ∃ k, tx.size - p = k + 1 := ⟨tx.size - p - 1, by omega⟩
    have h2 : tx.size - (p + 1) = k := by omega
    have h3 : tx.size - (k + 1) = p := by omega
    rw [hk, h2]
    show ((fresh L tx.size (tx.size - (k + 1)) ⟨nw, 0⟩).findSome? (RD L tx (k + 1))).or (ST L tx nw k) = _
    rw [h3]
  · obtain rfl : p = tx.size := by omega
    rw [if_neg h1, Nat.sub_self]
    show (fresh L tx.size tx.size ⟨nw, 0⟩).findSome? (RD L tx 0) = _
    simp
/-- what a Set leads to -/
theorem RD_set {L : List Ins} {tx : ByteArray} {q : Nat} {j : Nat} {i : Ins} {ps : List Int} (hi : L[j]? = some i) (hop : i.op = 1) (hq : q ≤ tx.size) :
    RD L tx (tx.size - q) ⟨ps, (j : Int)⟩ = if q < tx.size ∧ hasF i.ps (by_ tx q) = true then (fresh L tx.size (q + 1) ⟨ps, ((j + 1 : Nat) : Int)⟩).findSome? (RD L tx (tx.size - (q + 1))) else none := by
  have hi2 : L[((j : Int)).toNat]? = some i := by simpa using hi
  by_cases h1 : q < tx.size
  · obtain ⟨k, hk⟩ : ∃ k, tx.size - q = k + 1 := ⟨tx.size - q - 1, by omega⟩
    have e1 : tx.size - (k + 1) = q := by omega
    have e2 : tx.size - k = q + 1 := by omega
    have e3 : tx.size - (q + 1) = k := by omega
    rw [hk, e3]
    conv => lhs; unfold RD
    rw [hi2]
    simp only [e1, e2]
    rw [if_neg (by omega)]
    by_cases hh : hasF i.ps (by_ tx q) = true
    · rw [if_pos ⟨hop, hh⟩, if_pos ⟨h1, hh⟩]
      push_cast
      rfl
    · rw [if_neg (fun e => hh e.2), if_neg (fun e => hh e.2)]
  · rw [if_neg (fun e => h1 e.1), show tx.size - q = 0 by omega]
    unfold RD
    rw [hi2]
    simp only
    rw [if_neg (by omega)]
theorem by_bs (l : List Nat) (k c : Nat) (h : l[k]? = some c) (hc : c < 256) : by_ (bs l) k = c := by
  unfold by_ bs
  simp [List.getD, h]
  omega
theorem has_one (c b : Nat) (hc : c < 256) : hasF (bs [c, c]) b = decide (c = b) := by
  have h1 : (bs [c, c]).size / 2 = 1 := by rw [bs_size]; simp
  unfold hasF
  rw [h1]
  simp only [List.range_succ, List.range_zero, List.nil_append, List.any_cons, List.any_nil, Bool.or_false]
  rw [by_bs [c, c] (2 * 0) c rfl hc, by_bs [c, c] (2 * 0 + 1) c rfl hc]
  rw [Bool.eq_iff_iff]
  simp
  omega
/-- the instruction of a byte that stands for itself -/
def setI (c : Nat) : Ins := ⟨1, 0, 0, bs [c, c]⟩
/-- the program of a text without signs -/
def plainL (s : ByteArray) : List Ins := ⟨4, 0, 0, e0⟩ :: ((List.range s.size).map (fun k => setI (by_ s k)) ++ [⟨4, 1, 0, e0⟩, ⟨7, 0, 0, e0⟩])
theorem plain_0 (s : ByteArray) : (plainL s)[0]? = some ⟨4, 0, 0, e0⟩ := rfl
theorem plain_set (s : ByteArray) (k : Nat) (h : k < s.size) : (plainL s)[1 + k]? = some (setI (by_ s k)) := by
  unfold plainL
  rw [Nat.add_comm, List.getElem?_cons_succ, List.getElem?_append_left (by simpa using h), List.getElem?_map, List.getElem?_range h]
  rfl
theorem plain_1 (s : ByteArray) : (plainL s)[1 + s.size]? = some ⟨4, 1, 0, e0⟩ := by
  unfold plainL
  rw [Nat.add_comm, List.getElem?_cons_succ, List.getElem?_append_right (by simp)]
  simp
theorem plain_2 (s : ByteArray) : (plainL s)[1 + s.size + 1]? = some ⟨7, 0, 0, e0⟩ := by
  unfold plainL
  rw [show 1 + s.size + 1 = (s.size + 1) + 1 by omega, List.getElem?_cons_succ, List.getElem?_append_right (by simp)]
  simp
/-- the rest of a text stands at a place -/
def StandsAt (s tx : ByteArray) (j q r : Nat) : Prop := q + r ≤ tx.size ∧ ∀ k, k < r → by_ tx (q + k) = by_ s (j + k)
theorem plain_at (s tx : ByteArray) (p : Int) : ∀ (r j q : Nat), j + r = s.size → q ≤ tx.size →
    (StandsAt s tx j q r → (fresh (plainL s) tx.size q ⟨[p, -1], ((1 + j : Nat) : Int)⟩).findSome? (RD (plainL s) tx (tx.size - q)) = some [p, ((q + r : Nat) : Int)]) ∧
    (¬ StandsAt s tx j q r → (fresh (plainL s) tx.size q ⟨[p, -1], ((1 + j : Nat) : Int)⟩).findSome? (RD (plainL s) tx (tx.size - q)) = none)
  | 0, j, q, hj, hq => by
    obtain rfl : j = s.size := by omega
    have hf : fresh (plainL s) tx.size q ⟨[p, -1], ((1 + s.size : Nat) : Int)⟩ = [⟨[p, (q : Int)], ((1 + s.size + 1 : Nat) : Int)⟩] :=
      fresh_of (Cl_save (plain_1 s) rfl (by simp) (Cl_way (plain_2 s) (.inr rfl) (by simp; omega)))
    rw [hf]
    refine ⟨fun _ => ?_, fun h => absurd ⟨by omega, fun k hk => absurd hk (by omega)⟩ h⟩
    rw [List.findSome?_cons, RD_hit (i := ⟨7, 0, 0, e0⟩) (by rw [Int.toNat_natCast]; exact plain_2 s) rfl]
    rfl
  | r + 1, j, q, hj, hq => by
    have hjs : j < s.size := by omega
    have hf : fresh (plainL s) tx.size q ⟨[p, -1], ((1 + j : Nat) : Int)⟩ = [⟨[p, -1], ((1 + j : Nat) : Int)⟩] := fresh_of (Cl_way (plain_set s j hjs) (.inl rfl) (by simp))
    rw [hf]
    have ih := plain_at s tx p r (j + 1) (q + 1) (by omega)
    rw [List.findSome?_cons, RD_set (plain_set s j hjs) rfl hq]
    have hh : hasF (setI (by_ s j)).ps (by_ tx q) = decide (by_ s j = by_ tx q) := has_one _ _ (by_lt s j)
    rw [hh]
    have e2 : 1 + j + 1 = 1 + (j + 1) := by omega
    constructor
    · rintro ⟨h1, h2⟩
      have h3 := h2 0 (by omega)
      rw [Nat.add_zero, Nat.add_zero] at h3
      rw [if_pos ⟨by omega, by rw [h3]; simp⟩, e2, (ih (by omega)).1 ⟨by omega, fun k hk => by
        have := h2 (k + 1) (by omega)
        rw [show q + 1 + k = q + (k + 1) by omega, show j + 1 + k = j + (k + 1) by omega]
        exact this⟩]
      simp
      omega
    · intro hn
      by_cases hc : q < tx.size ∧ decide (by_ s j = by_ tx q) = true
      · rw [if_pos hc, e2, (ih (by omega)).2 (fun ⟨h1, h2⟩ => hn ⟨by omega, fun k hk => by
          cases k with
          | zero => have := hc.2; simp at this; simp [this]
          | succ k =>
            have := h2 k (by omega)
            rw [show q + (k + 1) = q + 1 + k by omega, show j + (k + 1) = j + 1 + k by omega]
            exact this⟩)]
        rfl
      · rw [if_neg hc]
        rfl
theorem plain_start (s : ByteArray) (tl p : Nat) : fresh (plainL s) tl p ⟨[-1, -1], 0⟩ = fresh (plainL s) tl p ⟨[(p : Int), -1], ((1 + 0 : Nat) : Int)⟩ := by
  have w0 : withF [-1, -1] 0 p = [(p : Int), -1] := rfl
  have w1 : withF [(p : Int), -1] 1 p = [(p : Int), (p : Int)] := rfl
  by_cases h : 0 < s.size
  · rw [fresh_of (Cl_way (plain_set s 0 h) (.inl rfl) (by simp))]
    exact fresh_of (Cl_save (j := 0) (plain_0 s) rfl (by simp) (by
      simp only [w0]
      exact Cl_way (j := 0 + 1) (plain_set s 0 h) (.inl rfl) (by simp)))
  · have h0 : s.size = 0 := by omega
    have q1 := plain_1 s
    have q2 := plain_2 s
    rw [h0] at q1 q2
    rw [fresh_of (Cl_save q1 rfl (by simp) (Cl_way q2 (.inr rfl) (by simp)))]
    exact fresh_of (Cl_save (j := 0) (plain_0 s) rfl (by simp) (by
      simp only [w0]
      exact Cl_save (j := 0 + 1) q1 rfl (by simp) (Cl_way (j := 0 + 1 + 1) q2 (.inr rfl) (by simp))))
theorem plain_first (s tx : ByteArray) : ∀ (d p a : Nat), p + d = a → StandsAt s tx 0 a s.size → (∀ i, p ≤ i → i < a → ¬ StandsAt s tx 0 i s.size) → ST (plainL s) tx [-1, -1] (tx.size - p) = some [(a : Int), ((a + s.size : Nat) : Int)]
  | 0, p, a, hd, hM, _ => by
    obtain rfl : p = a := by omega
    have := hM.1
    rw [ST_at _ _ _ _ (by omega), plain_start, (plain_at s tx p s.size 0 p (by omega) (by omega)).1 hM]
    rfl
  | d + 1, p, a, hd, hM, hN => by
    have := hM.1
    rw [ST_at _ _ _ _ (by omega), plain_start, (plain_at s tx p s.size 0 p (by omega) (by omega)).2 (hN p (by omega) (by omega)), if_pos (by omega), plain_first s tx d (p + 1) a (by omega) hM (fun i h1 h2 => hN i (by omega) h2)]
    rfl
theorem plain_no (s tx : ByteArray) (hN : ∀ i, ¬ StandsAt s tx 0 i s.size) : ∀ (d p : Nat), p + d = tx.size → ST (plainL s) tx [-1, -1] (tx.size - p) = none
  | 0, p, hd => by
    rw [ST_at _ _ _ _ (by omega), plain_start, (plain_at s tx p s.size 0 p (by omega) (by omega)).2 (hN p), if_neg (by omega)]
    rfl
  | d + 1, p, hd => by
    rw [ST_at _ _ _ _ (by omega), plain_start, (plain_at s tx p s.size 0 p (by omega) (by omega)).2 (hN p), if_pos (by omega), plain_no s tx hN d (p + 1) (by omega)]
    rfl
/-- what Find answers -/
theorem plain_find (s tx : ByteArray) (a : Nat) (hM : StandsAt s tx 0 a s.size) (hN : ∀ i, i < a → ¬ StandsAt s tx 0 i s.size) : findF 0 (plainL s) tx 0 = some (some [(a : Int), ((a + s.size : Nat) : Int)]) := by
  have := hM.1
  rw [findF_spec _ _ _ _ (by omega)]
  have := plain_first s tx a 0 a (by omega) hM (fun i _ h => hN i h)
  simpa using this
theorem plain_miss (s tx : ByteArray) (hN : ∀ i, ¬ StandsAt s tx 0 i s.size) : findF 0 (plainL s) tx 0 = some none := by
  rw [findF_spec _ _ _ _ (by omega)]
  have := plain_no s tx hN tx.size 0 (by omega)
  simpa using this
/-- letters -/
def Letters (s : ByteArray) : Prop := ∀ p, p < s.size → 97 ≤ by_ s p ∧ by_ s p ≤ 122
theorem pairs_letter : ∀ c, c < 123 → 97 ≤ c → pairsOf (fun i => i == c) = [c, c] := by decide +kernel
theorem set_letter (s : ByteArray) (p : Nat) (h1 : 97 ≤ by_ s p) (h2 : by_ s p ≤ 122) : setF s p = (some fun i => i == by_ s p, p + 1) := by
  unfold setF
  have hs : specB (by_ s p) = false := by
    unfold specB
    simp
    omega
  simp only
  rw [if_neg (by simp; omega), if_neg (by simp; omega), if_neg (by simp; omega), if_neg (by rw [hs]; decide)]
theorem atom_letter (s : ByteArray) (wf : RS → RS) (p : Nat) (L : List Ins) (h1 : 97 ≤ by_ s p) (h2 : by_ s p ≤ 122) : atomF s wf ⟨p, 0, 0, 0, L⟩ = ⟨p + 1, 0, 0, 0, L ++ [setI (by_ s p)]⟩ := by
  unfold atomF
  simp only
  rw [if_neg (by simp; omega), if_neg (by simp; omega), if_neg (by simp; omega), set_letter s p h1 h2]
  simp only [RS.lay]
  rw [pairs_letter _ (by omega) h1]
  rfl
theorem piece_letter (s : ByteArray) (wf : RS → RS) (p : Nat) (L : List Ins) (hs : Letters s) (hp : p < s.size) : pieceF s wf ⟨p, 0, 0, 0, L⟩ = ⟨p + 1, 0, 0, 0, L ++ [setI (by_ s p)]⟩ := by
  unfold pieceF
  simp only
  rw [atom_letter s wf p L (hs p hp).1 (hs p hp).2]
  by_cases h : p + 1 = s.size
  · rw [if_pos (.inr h)]
  · rw [if_neg (by simp; exact h)]
    have := hs (p + 1) (by omega)
    rw [if_neg (by simp; omega)]
theorem row_letters (s : ByteArray) (wf : RS → RS) (hs : Letters s) : ∀ (d k p : Nat) (L : List Ins), p + d = s.size → d ≤ k → rowF s wf k ⟨p, 0, 0, 0, L⟩ = ⟨s.size, 0, 0, 0, L ++ (List.range d).map (fun i => setI (by_ s (p + i)))⟩
  | 0, k, p, L, hd, hk => by
    obtain rfl : p = s.size := by omega
    have hg : rowGo s ⟨s.size, 0, 0, 0, L⟩ = false := by unfold rowGo; simp
    cases k with
    | zero => simp [rowF]
    | succ k => unfold rowF; rw [hg]; simp
  | d + 1, 0, p, L, hd, hk => by omega
  | d + 1, k + 1, p, L, hd, hk => by
    have hp : p < s.size := by omega
    have hb := hs p hp
    have hg : rowGo s ⟨p, 0, 0, 0, L⟩ = true := by
      unfold rowGo
      simp
      exact ⟨⟨hp, by omega⟩, by omega⟩
    unfold rowF
    rw [hg, if_pos rfl, piece_letter s wf p L hs hp, row_letters s wf hs d k (p + 1) _ (by omega) (by omega), List.range_succ_eq_map, List.map_cons, List.map_map, List.append_assoc]
    simp only [List.singleton_append, Nat.add_zero]
    congr 3
    refine List.map_congr_left (fun i _ => ?_)
    simp only [Function.comp]
    rw [show p + 1 + i = p + Nat.succ i by omega]
theorem comp_letters (s : ByteArray) (hs : Letters s) (hl : s.size ≤ 1000) : compF s = (0, plainL s, 0) := by
  unfold compF
  rw [if_neg (by omega)]
  have hw : waysF s (s.size + 1) ⟨0, 0, 0, 0, [⟨4, 0, 0, e0⟩]⟩ = ⟨s.size, 0, 0, 0, [⟨4, 0, 0, e0⟩] ++ (List.range s.size).map (fun i => setI (by_ s i))⟩ := by
    unfold waysF
    simp only
    rw [row_letters s _ hs s.size (s.size + 1) 0 _ (by omega) (by omega)]
    simp only [Nat.zero_add]
    rw [if_pos (.inr (by unfold moreF; simp))]
  simp only
  rw [hw]
  simp only [RS.lay]
  rw [if_neg (by simp), if_neg (by simp; omega)]
  simp [plainL]
end Go.Proofs.Ytldcbkememonaaa

namespace Go.Proofs.Ytldcbkememonaaa
open Go.RowKit
set_option linter.unusedVariables false
set_option linter.unusedSimpArgs false

theorem Cl_way' {L : List Ins} {tl p j : Nat} {S S' : List Int} {i : Ins} {ps : List Int} {r o : List Way} (hi : L[j]? = some i) (hop : i.op = 1 ∨ i.op = 7) (hS : (j : Int) ∉ S) (h : Cl L tl p r ((j : Int) :: S) o S') : Cl L tl p (⟨ps, (j : Int)⟩ :: r) S (⟨ps, (j : Int)⟩ :: o) S' := by
  have h := Cl.go (L := L) (tl := tl) (place := p) ⟨ps, (j : Int)⟩ r S o S' i (not_bad hi hS) hi (by unfold pushT; rw [if_pos hop]; exact h)
  rw [if_pos hop] at h
  exact h
theorem Cl_go' {L : List Ins} {tl p j : Nat} {S S' : List Int} {i : Ins} {ps : List Int} {r o t : List Way} (hi : L[j]? = some i) (hop : ¬ (i.op = 1 ∨ i.op = 7)) (hS : (j : Int) ∉ S) (hp : pushT i ⟨ps, (j : Int)⟩ tl p = t) (h : Cl L tl p (t ++ r) ((j : Int) :: S) o S') : Cl L tl p (⟨ps, (j : Int)⟩ :: r) S o S' := by
  have h := Cl.go (L := L) (tl := tl) (place := p) ⟨ps, (j : Int)⟩ r S o S' i (not_bad hi hS) hi (by rw [hp]; exact h)
  rw [if_neg hop] at h
  exact h
def LA : List Ins := [⟨4, 0, 0, e0⟩, ⟨2, 2, 4, e0⟩, setI 97, ⟨3, 1, 0, e0⟩, ⟨4, 1, 0, e0⟩, ⟨7, 0, 0, e0⟩]
def LQ : List Ins := [⟨4, 0, 0, e0⟩, ⟨2, 4, 2, e0⟩, setI 97, ⟨3, 1, 0, e0⟩, ⟨4, 1, 0, e0⟩, ⟨7, 0, 0, e0⟩]
def LR : List Ins := [⟨4, 0, 0, e0⟩, ⟨2, 2, 10, e0⟩, ⟨4, 2, 0, e0⟩, ⟨2, 4, 6, e0⟩, setI 97, ⟨3, 8, 0, e0⟩, setI 97, setI 97, ⟨4, 3, 0, e0⟩, ⟨3, 1, 0, e0⟩, ⟨6, 0, 0, e0⟩, ⟨4, 1, 0, e0⟩, ⟨7, 0, 0, e0⟩]
theorem comp_A : compF ⟨#[97, 42]⟩ = (0, LA, 0) := by kernel_rfl
theorem comp_Q : compF ⟨#[97, 42, 63]⟩ = (0, LQ, 0) := by kernel_rfl
theorem comp_R : compF ⟨#[40, 97, 124, 97, 97, 41, 42, 36]⟩ = (1, LR, 0) := by kernel_rfl
theorem fresh_A1 (n q : Nat) : fresh LA n q ⟨[0, -1], 3⟩ = [⟨[0, -1], ((2 : Nat) : Int)⟩, ⟨[0, (q : Int)], 5⟩] := rfl
theorem fresh_A0 (n : Nat) : fresh LA n 0 ⟨[-1, -1], 0⟩ = [⟨[0, -1], ((2 : Nat) : Int)⟩, ⟨[0, ((0 : Nat) : Int)], 5⟩] := rfl
theorem fresh_Q0 (n : Nat) : fresh LQ n 0 ⟨[-1, -1], 0⟩ = [⟨[0, 0], 5⟩, ⟨[0, -1], 2⟩] := rfl
/-- so many bytes 'a' at its head, and no more -/
structure Runs (tx : ByteArray) (all : Nat) : Prop where
  le : all ≤ tx.size
  a : ∀ k, k < all → by_ tx k = 97
  no : all < tx.size → by_ tx all ≠ 97
theorem star_at (tx : ByteArray) (all : Nat) (h : Runs tx all) : ∀ (d q : Nat), q + d = all → ([⟨[0, -1], ((2 : Nat) : Int)⟩, ⟨[0, (q : Int)], 5⟩] : List Way).findSome? (RD LA tx (tx.size - q)) = some [0, (all : Int)]
  | 0, q, hd => by
    obtain rfl : q = all := by omega
    have := h.le
    rw [List.findSome?_cons, RD_set (i := setI 97) rfl rfl h.le, if_neg (fun e => by
      have h1 := h.no e.1
      have h2 := e.2
      rw [show (setI 97).ps = bs [97, 97] from rfl, has_one 97 _ (by omega)] at h2
      simp at h2
      omega)]
    simp only
    rw [List.findSome?_cons, RD_hit (i := ⟨7, 0, 0, e0⟩) rfl rfl]
  | d + 1, q, hd => by
    have h1 := h.le
    rw [List.findSome?_cons, RD_set (i := setI 97) rfl rfl (by omega), if_pos ⟨by omega, by
      rw [show (setI 97).ps = bs [97, 97] from rfl, has_one 97 _ (by omega), h.a q (by omega)]; rfl⟩]
    rw [show (((2 + 1 : Nat)) : Int) = 3 from rfl, fresh_A1, star_at tx all h d (q + 1) (by omega)]
theorem star_find (tx : ByteArray) (all : Nat) (h : Runs tx all) : findF 0 LA tx 0 = some (some [0, (all : Int)]) := by
  rw [findF_spec _ _ _ _ (by omega)]
  have := ST_at LA tx [-1, -1] 0 (by omega)
  rw [fresh_A0, star_at tx all h all 0 (by omega)] at this
  simpa using this
theorem lazy_find (tx : ByteArray) : findF 0 LQ tx 0 = some (some [0, 0]) := by
  rw [findF_spec _ _ _ _ (by omega)]
  have := ST_at LQ tx [-1, -1] 0 (by omega)
  rw [fresh_Q0, List.findSome?_cons, RD_hit (i := ⟨7, 0, 0, e0⟩) rfl rfl] at this
  simpa using this
theorem head_no {tl q : Nat} (h : ¬ q = tl) (ps : List Int) (S : List Int) (h1 : (1 : Int) ∉ S) (h2 : (2 : Int) ∉ S) (h3 : (3 : Int) ∉ S) (h4 : (4 : Int) ∉ S) (h6 : (6 : Int) ∉ S) (h10 : (10 : Int) ∉ S) : ∃ S', Cl LR tl q [⟨ps, 1⟩] S [⟨withF ps 2 q, 4⟩, ⟨withF ps 2 q, 6⟩] S' := by
  refine ⟨10 :: 6 :: 4 :: 3 :: 2 :: 1 :: S, ?_⟩
  refine Cl_go' (j := 1) (i := ⟨2, 2, 10, e0⟩) rfl (by decide) h1 rfl ?_
  refine Cl_go' (j := 2) (i := ⟨4, 2, 0, e0⟩) rfl (by decide) (by simp; exact h2) rfl ?_
  refine Cl_go' (j := 3) (i := ⟨2, 4, 6, e0⟩) rfl (by decide) (by simp; exact h3) rfl ?_
  refine Cl_way' (j := 4) (i := setI 97) rfl (.inl rfl) (by simp; exact h4) ?_
  refine Cl_way' (j := 6) (i := setI 97) rfl (.inl rfl) (by simp; exact h6) ?_
  refine Cl_go' (j := 10) (i := ⟨6, 0, 0, e0⟩) (t := []) rfl (by decide) (by simp; exact h10) ?_ (.nil _)
  unfold pushT
  rw [if_neg (by decide), if_neg (by decide), if_neg (by decide), if_neg (by decide), if_neg (by decide), if_pos rfl, if_neg h]
theorem head_yes {tl : Nat} (ps : List Int) (S : List Int) (h1 : (1 : Int) ∉ S) (h2 : (2 : Int) ∉ S) (h3 : (3 : Int) ∉ S) (h4 : (4 : Int) ∉ S) (h6 : (6 : Int) ∉ S) (h10 : (10 : Int) ∉ S) (h11 : (11 : Int) ∉ S) (h12 : (12 : Int) ∉ S) :
    ∃ S', Cl LR tl tl [⟨ps, 1⟩] S [⟨withF ps 2 tl, 4⟩, ⟨withF ps 2 tl, 6⟩, ⟨withF ps 1 tl, 12⟩] S' := by
  refine ⟨12 :: 11 :: 10 :: 6 :: 4 :: 3 :: 2 :: 1 :: S, ?_⟩
  refine Cl_go' (j := 1) (i := ⟨2, 2, 10, e0⟩) rfl (by decide) h1 rfl ?_
  refine Cl_go' (j := 2) (i := ⟨4, 2, 0, e0⟩) rfl (by decide) (by simp; exact h2) rfl ?_
  refine Cl_go' (j := 3) (i := ⟨2, 4, 6, e0⟩) rfl (by decide) (by simp; exact h3) rfl ?_
  refine Cl_way' (j := 4) (i := setI 97) rfl (.inl rfl) (by simp; exact h4) ?_
  refine Cl_way' (j := 6) (i := setI 97) rfl (.inl rfl) (by simp; exact h6) ?_
  refine Cl_go' (j := 10) (i := ⟨6, 0, 0, e0⟩) (t := [⟨ps, ((11 : Nat) : Int)⟩]) rfl (by decide) (by simp; exact h10) ?_ ?_
  · unfold pushT
    rw [if_neg (by decide), if_neg (by decide), if_neg (by decide), if_neg (by decide), if_neg (by decide), if_pos rfl, if_pos rfl]
    rfl
  · refine Cl_go' (j := 11) (i := ⟨4, 1, 0, e0⟩) rfl (by decide) (by simp; exact h11) rfl ?_
    exact Cl_way' (j := 12) (i := ⟨7, 0, 0, e0⟩) rfl (.inr rfl) (by simp; exact h12) (.nil _)
theorem some_of {α β : Type} {f : α → Option β} {l : List α} {x : α} (hx : x ∈ l) (h : (f x).isSome = true) : (l.findSome? f).isSome = true := by
  cases hl : l.findSome? f with
  | some v => rfl
  | none =>
    rw [List.findSome?_eq_none_iff] at hl
    rw [hl x hx] at h
    cases h
theorem star_ok (tx : ByteArray) (ha : ∀ k, k < tx.size → by_ tx k = 97) : ∀ (d q : Nat) (ps : List Int), q + d = tx.size → ((fresh LR tx.size q ⟨ps, ((5 : Nat) : Int)⟩).findSome? (RD LR tx (tx.size - q))).isSome = true
  | 0, q, ps, hd => by
    obtain rfl : q = tx.size := by omega
    obtain ⟨S', hh⟩ := head_yes (tl := tx.size) (withF ps 3 tx.size) [9, 8, 5] (by decide) (by decide) (by decide) (by decide) (by decide) (by decide) (by decide) (by decide)
    have hf : fresh LR tx.size tx.size ⟨ps, ((5 : Nat) : Int)⟩ = _ := fresh_of (Cl_go' (j := 5) (i := ⟨3, 8, 0, e0⟩) rfl (by decide) (by decide) rfl (Cl_go' (j := 8) (i := ⟨4, 3, 0, e0⟩) rfl (by decide) (by decide) rfl (Cl_go' (j := 9) (i := ⟨3, 1, 0, e0⟩) rfl (by decide) (by decide) rfl hh)))
    rw [hf]
    refine some_of (x := ⟨withF (withF ps 3 tx.size) 1 tx.size, 12⟩) (by simp) ?_
    rw [RD_hit (i := ⟨7, 0, 0, e0⟩) rfl rfl]
    rfl
  | d + 1, q, ps, hd => by
    obtain ⟨S', hh⟩ := head_no (tl := tx.size) (q := q) (by omega) (withF ps 3 q) [9, 8, 5] (by decide) (by decide) (by decide) (by decide) (by decide) (by decide)
    have hf : fresh LR tx.size q ⟨ps, ((5 : Nat) : Int)⟩ = _ := fresh_of (Cl_go' (j := 5) (i := ⟨3, 8, 0, e0⟩) rfl (by decide) (by decide) rfl (Cl_go' (j := 8) (i := ⟨4, 3, 0, e0⟩) rfl (by decide) (by decide) rfl (Cl_go' (j := 9) (i := ⟨3, 1, 0, e0⟩) rfl (by decide) (by decide) rfl hh)))
    rw [hf]
    refine some_of (x := ⟨withF (withF ps 3 q) 2 q, ((4 : Nat) : Int)⟩) (by simp) ?_
    rw [RD_set (i := setI 97) rfl rfl (by omega), if_pos ⟨by omega, by
      rw [show (setI 97).ps = bs [97, 97] from rfl, has_one 97 _ (by omega), ha q (by omega)]; rfl⟩]
    exact star_ok tx ha d (q + 1) _ (by omega)
theorem star_is (tx : ByteArray) (ha : ∀ k, k < tx.size → by_ tx k = 97) : ∃ R, findF 1 LR tx 0 = some R ∧ R.isSome = true := by
  rw [findF_spec _ _ _ _ (by omega)]
  refine ⟨_, rfl, ?_⟩
  have h0 := ST_at LR tx [-1, -1, -1, -1] 0 (by omega)
  have h1 : ((fresh LR tx.size 0 ⟨[-1, -1, -1, -1], 0⟩).findSome? (RD LR tx (tx.size - 0))).isSome = true := by
    by_cases hn : tx.size = 0
    · obtain ⟨S', hh⟩ := head_yes (tl := tx.size) (withF [-1, -1, -1, -1] 0 0) [0] (by decide) (by decide) (by decide) (by decide) (by decide) (by decide) (by decide) (by decide)
      have hf : fresh LR tx.size 0 ⟨[-1, -1, -1, -1], ((0 : Nat) : Int)⟩ = _ := fresh_of (Cl_go' (j := 0) (i := ⟨4, 0, 0, e0⟩) rfl (by decide) (by decide) rfl (by
        have := hh
        rw [hn] at this
        rw [hn]
        exact this))
      rw [show (0 : Int) = ((0 : Nat) : Int) from rfl, hf]
      refine some_of (x := ⟨withF (withF [-1, -1, -1, -1] 0 0) 1 ((0 : Nat) : Int), 12⟩) (by simp) ?_
      rw [RD_hit (i := ⟨7, 0, 0, e0⟩) rfl rfl]
      rfl
    · obtain ⟨S', hh⟩ := head_no (tl := tx.size) (q := 0) (by omega) (withF [-1, -1, -1, -1] 0 ((0 : Nat) : Int)) [0] (by decide) (by decide) (by decide) (by decide) (by decide) (by decide)
      have hf : fresh LR tx.size 0 ⟨[-1, -1, -1, -1], ((0 : Nat) : Int)⟩ = _ := fresh_of (Cl_go' (j := 0) (i := ⟨4, 0, 0, e0⟩) rfl (by decide) (by decide) rfl hh)
      rw [show (0 : Int) = ((0 : Nat) : Int) from rfl, hf]
      refine some_of (x := ⟨withF (withF [-1, -1, -1, -1] 0 ((0 : Nat) : Int)) 2 ((0 : Nat) : Int), ((4 : Nat) : Int)⟩) (by simp) ?_
      rw [RD_set (i := setI 97) rfl rfl (by omega), if_pos ⟨by omega, by
        rw [show (setI 97).ps = bs [97, 97] from rfl, has_one 97 _ (by omega), ha 0 (by omega)]; rfl⟩]
      exact star_ok tx ha (tx.size - 1) 1 _ (by omega)
  have e : ST LR tx (List.replicate (2 * (1 : Int).toNat + 2) (-1)) (tx.size - (0 : Int).toNat) = ST LR tx [-1, -1, -1, -1] (tx.size - 0) := rfl
  rw [e, h0]
  cases hh : (fresh LR tx.size 0 ⟨[-1, -1, -1, -1], 0⟩).findSome? (RD LR tx (tx.size - 0)) with
  | some v => rfl
  | none => rw [hh] at h1; cases h1
end Go.Proofs.Ytldcbkememonaaa
