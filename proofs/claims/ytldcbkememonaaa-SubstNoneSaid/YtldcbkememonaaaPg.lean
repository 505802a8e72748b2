/-
  The walks of Has (rex, graticuleref11). / Plain facts about adds; step and Find as plain functions. / adds, all of it above a place in memory; the walk of pike's step.
-/
import Derived.Test.YtldcbkememonaaaPb
import Derived.Test.YtldcbkememonaaaPf
import Derived.Test.YtldcbkememonaaaE5
namespace Go.Proofs.Ytldcbkememonaaa
open Go.RowKit
set_option linter.unusedVariables false
set_option linter.unusedSimpArgs false

/-- is the byte in one of the pairs' runs -/
def hasF (ps : ByteArray) (c : Nat) : Bool := (List.range (ps.size / 2)).any fun j => decide (by_ ps (2 * j) ≤ c) && decide (c ≤ by_ ps (2 * j + 1))
theorem any_snoc (p : Nat → Bool) (j : Nat) : (List.range (j + 1)).any p = ((List.range j).any p || p j) := by
  rw [List.range_succ, List.any_append]; simp
theorem any_mem (p : Nat → Bool) (j n : Nat) (h : p j = true) (hj : j < n) : (List.range n).any p = true := by
  rw [List.any_eq_true]; exact ⟨j, by simpa using hj, h⟩

set_option maxHeartbeats 1000000 in
theorem has41_any (ps : ByteArray) (c : Nat) (hc : c < 256) (hn : ps.size ≤ 100000) (w : World) : Calls Try.prog 41 #[.string ps, .int .u8 c] w fun e w' => e = .returned (.bool (hasF ps c)) ∧ w' = w := by
  obtain ⟨R, hR⟩ : ∃ R, R = hasF ps c := ⟨_, rfl⟩
  rw [← hR]
  have HR := Lib.hid hR
  clear hR
  have c0 : (0 : Int) ≤ (c : Int) := by omega
  go_enter Try.func41, Try.ntmps41
  go_wp2
  go_loopw [5] (fun t wr => ∃ (j i : Nat), Hid (i = 2 * j) ∧ i ≤ ps.size ∧ t = .int .i64 i ∧ wr = w ∧ Hid ((List.range j).any (fun j => decide (by_ ps (2 * j) ≤ c) && decide (c ≤ by_ ps (2 * j + 1))) = false)) (fun t _ => ps.size - (intOf t).toNat)
  case atStart => exact ⟨0, 0, Lib.hid rfl, by omega, rfl, rfl, Lib.hid rfl⟩
  case round =>
    obtain ⟨j, i, HI, hi, rfl, rfl, HA⟩ := hrel
    have k0 : (0 : Int) ≤ (i : Int) := by omega
    have k5 : (i : Int) ≤ 100000 := by omega
    by_cases hlt : i + 1 < ps.size
    · have k1 : (i : Int) + 1 < (ps.size : Int) := by omega
      have k2 : (i : Int) < (ps.size : Int) := by omega
      have k3 : i < ps.size := by omega
      obtain ⟨x, hx⟩ : ∃ x, x = by_ ps i := ⟨_, rfl⟩
      obtain ⟨y, hy⟩ : ∃ y, y = by_ ps (i + 1) := ⟨_, rfl⟩
      have ex : ps[i].toNat = x := by rw [hx, by_at ps i k3]
      have ey : ps[i + 1].toNat = y := by rw [hy, by_at ps (i + 1) hlt]
      have HX := Lib.hid hx
      have HY := Lib.hid hy
      clear hx hy
      by_cases h1 : x ≤ c
      · by_cases h2 : c ≤ y
        · have q1 : (x : Int) ≤ (c : Int) := by omega
          have q2 : (c : Int) ≤ (y : Int) := by omega
          go_wp2
          go_ret
          refine ⟨ret_bool ?_, rfl⟩
          rw [HR.out]
          unfold hasF
          refine (any_mem _ j _ ?_ (by have := HI.out; omega)).symm
          simp only [← HI.out]
          rw [← HX.out, ← HY.out]
          simp [h1, h2]
        · have q1 : (x : Int) ≤ (c : Int) := by omega
          have q2 : ¬ (c : Int) ≤ (y : Int) := by omega
          go_wp2
          go_roundw
          case rel => exact ⟨j + 1, i + 2, Lib.hid (by have := HI.out; omega), by omega, by go_num, trivial, Lib.hid (by rw [any_snoc, HA.out, ← HI.out, ← HX.out, ← HY.out]; simp [h2])⟩
          case measure => simp [intOf]; omega
      · have q1 : ¬ (x : Int) ≤ (c : Int) := by omega
        go_wp2
        go_roundw
        case rel => exact ⟨j + 1, i + 2, Lib.hid (by have := HI.out; omega), by omega, by go_num, trivial, Lib.hid (by rw [any_snoc, HA.out, ← HI.out, ← HX.out, ← HY.out]; simp [h1])⟩
        case measure => simp [intOf]; omega
    · have k1 : ¬ (i : Int) + 1 < (ps.size : Int) := by omega
      go_wp2
      go_ret
      refine ⟨ret_bool ?_, rfl⟩
      rw [HR.out]
      unfold hasF
      rw [show ps.size / 2 = j by have := HI.out; omega]
      exact HA.out.symm

set_option maxHeartbeats 1000000 in
theorem has42_any (ps : ByteArray) (c : Nat) (hc : c < 256) (hn : ps.size ≤ 100000) (w : World) : Calls Try.prog 42 #[.string ps, .int .u8 c] w fun e w' => e = .returned (.bool (hasF ps c)) ∧ w' = w := by
  obtain ⟨R, hR⟩ : ∃ R, R = hasF ps c := ⟨_, rfl⟩
  rw [← hR]
  have HR := Lib.hid hR
  clear hR
  have c0 : (0 : Int) ≤ (c : Int) := by omega
  go_enter Try.func42, Try.ntmps42
  go_wp2
  go_loopw [5] (fun t wr => ∃ (j i : Nat), Hid (i = 2 * j) ∧ i ≤ ps.size ∧ t = .int .i64 i ∧ wr = w ∧ Hid ((List.range j).any (fun j => decide (by_ ps (2 * j) ≤ c) && decide (c ≤ by_ ps (2 * j + 1))) = false)) (fun t _ => ps.size - (intOf t).toNat)
  case atStart => exact ⟨0, 0, Lib.hid rfl, by omega, rfl, rfl, Lib.hid rfl⟩
  case round =>
    obtain ⟨j, i, HI, hi, rfl, rfl, HA⟩ := hrel
    have k0 : (0 : Int) ≤ (i : Int) := by omega
    have k5 : (i : Int) ≤ 100000 := by omega
    by_cases hlt : i + 1 < ps.size
    · have k1 : (i : Int) + 1 < (ps.size : Int) := by omega
      have k2 : (i : Int) < (ps.size : Int) := by omega
      have k3 : i < ps.size := by omega
      obtain ⟨x, hx⟩ : ∃ x, x = by_ ps i := ⟨_, rfl⟩
      obtain ⟨y, hy⟩ : ∃ y, y = by_ ps (i + 1) := ⟨_, rfl⟩
      have ex : ps[i].toNat = x := by rw [hx, by_at ps i k3]
      have ey : ps[i + 1].toNat = y := by rw [hy, by_at ps (i + 1) hlt]
      have HX := Lib.hid hx
      have HY := Lib.hid hy
      clear hx hy
      by_cases h1 : x ≤ c
      · by_cases h2 : c ≤ y
        · have q1 : (x : Int) ≤ (c : Int) := by omega
          have q2 : (c : Int) ≤ (y : Int) := by omega
          go_wp2
          go_ret
          refine ⟨ret_bool ?_, rfl⟩
          rw [HR.out]
          unfold hasF
          refine (any_mem _ j _ ?_ (by have := HI.out; omega)).symm
          simp only [← HI.out]
          rw [← HX.out, ← HY.out]
          simp [h1, h2]
        · have q1 : (x : Int) ≤ (c : Int) := by omega
          have q2 : ¬ (c : Int) ≤ (y : Int) := by omega
          go_wp2
          go_roundw
          case rel => exact ⟨j + 1, i + 2, Lib.hid (by have := HI.out; omega), by omega, by go_num, trivial, Lib.hid (by rw [any_snoc, HA.out, ← HI.out, ← HX.out, ← HY.out]; simp [h2])⟩
          case measure => simp [intOf]; omega
      · have q1 : ¬ (x : Int) ≤ (c : Int) := by omega
        go_wp2
        go_roundw
        case rel => exact ⟨j + 1, i + 2, Lib.hid (by have := HI.out; omega), by omega, by go_num, trivial, Lib.hid (by rw [any_snoc, HA.out, ← HI.out, ← HX.out, ← HY.out]; simp [h1])⟩
        case measure => simp [intOf]; omega
    · have k1 : ¬ (i : Int) + 1 < (ps.size : Int) := by omega
      go_wp2
      go_ret
      refine ⟨ret_bool ?_, rfl⟩
      rw [HR.out]
      unfold hasF
      rw [show ps.size / 2 = j by have := HI.out; omega]
      exact HA.out.symm
end Go.Proofs.Ytldcbkememonaaa

namespace Go.Proofs.Ytldcbkememonaaa
open Go.RowKit
set_option linter.unusedVariables false
set_option linter.unusedSimpArgs false

/-- what an instruction puts ahead of the rest -/
def pushT (i : Ins) (x : Way) (tl place : Nat) : List Way :=
  if i.op = 1 ∨ i.op = 7 then [] else if i.op = 2 then [⟨x.ps, i.x⟩, ⟨x.ps, i.y⟩] else if i.op = 3 then [⟨x.ps, i.x⟩] else if i.op = 4 then [⟨withF x.ps i.x place, x.at_ + 1⟩]
  else if i.op = 5 then (if place = 0 then [⟨x.ps, x.at_ + 1⟩] else []) else if i.op = 6 then (if place = tl then [⟨x.ps, x.at_ + 1⟩] else []) else []
theorem addsF_eq (L : List Ins) (tl place f : Nat) (x : Way) (rest ws : List Way) (S : List Int) : addsF L tl place (f + 1) (x :: rest) ws S =
    if x.at_ < 0 ∨ (L.length : Int) ≤ x.at_ ∨ S.contains x.at_ = true then addsF L tl place f rest ws S
    else match L[x.at_.toNat]? with
      | none => none
      | some i => addsF L tl place f (pushT i x tl place ++ rest) (if i.op = 1 ∨ i.op = 7 then ws ++ [x] else ws) (x.at_ :: S) := by
  conv => lhs; unfold addsF
  split
  · rfl
  · cases hL : L[x.at_.toNat]? with
    | none => rfl
    | some i =>
      simp only [pushT]
      by_cases h1 : i.op = 1 ∨ i.op = 7
      · rw [if_pos h1, if_pos h1, if_pos h1]; rfl
      · rw [if_neg h1, if_neg h1, if_neg h1]
        by_cases h2 : i.op = 2
        · rw [if_pos h2, if_pos h2]; rfl
        · rw [if_neg h2, if_neg h2]
          by_cases h3 : i.op = 3
          · rw [if_pos h3, if_pos h3]; rfl
          · rw [if_neg h3, if_neg h3]
            by_cases h4 : i.op = 4
            · rw [if_pos h4, if_pos h4]; rfl
            · rw [if_neg h4, if_neg h4]
              by_cases h5 : i.op = 5
              · rw [if_pos h5, if_pos h5]; split <;> rfl
              · rw [if_neg h5, if_neg h5]
                by_cases h6 : i.op = 6
                · rw [if_pos h6, if_pos h6]; split <;> rfl
                · rw [if_neg h6, if_neg h6]; rfl
theorem pushT_len (i : Ins) (x : Way) (tl place : Nat) : (pushT i x tl place).length ≤ 2 := by
  unfold pushT
  repeat' split
  all_goals simp
theorem pushT_ps (i : Ins) (x : Way) (tl place : Nat) : ∀ y ∈ pushT i x tl place, y.ps.length = x.ps.length := by
  intro y hy
  unfold pushT at hy
  repeat' split at hy
  all_goals simp at hy
  all_goals first
    | (rcases hy with rfl | rfl <;> rfl)
    | (subst hy; first | rfl | exact withF_len _ _ _)
/-- numbers below n, each once -/
structure SOk (n : Nat) (S : List Int) : Prop where
  nd : S.Nodup
  rg : ∀ x ∈ S, 0 ≤ x ∧ x < (n : Int)
theorem nodup_len (n : Nat) : ∀ S : List Int, S.Nodup → (∀ x ∈ S, 0 ≤ x ∧ x < (n : Int)) → S.length ≤ n := by
  induction n with
  | zero =>
    intro S _ h
    cases S with
    | nil => simp
    | cons a S => have := h a (by simp); omega
  | succ n ih =>
    intro S hd h
    have h1 := ih (S.erase (n : Int)) (hd.erase _) (fun x hx => by
      have h2 := h x (List.mem_of_mem_erase hx)
      have h3 : x ≠ (n : Int) := ((List.Nodup.mem_erase_iff hd).1 hx).1
      omega)
    have h4 : S.length ≤ (S.erase (n : Int)).length + 1 := by
      rw [List.length_erase]
      split <;> omega
    omega
theorem SOk.len {n : Nat} {S : List Int} (h : SOk n S) : S.length ≤ n := nodup_len n S h.nd h.rg
/-- the state of 'adds' is fit -/
structure AOk (L : List Ins) (m : Nat) (ws : List Way) (S : List Int) : Prop where
  so : SOk L.length S
  wy : ∀ y ∈ ws, 0 ≤ y.at_ ∧ y.at_ < (L.length : Int) ∧ y.ps.length = m
  le : ws.length ≤ S.length
theorem AOk.nil (L : List Ins) (m : Nat) : AOk L m [] [] := ⟨⟨List.nodup_nil, by simp⟩, by simp, by simp⟩
theorem AOk.step {L : List Ins} {m : Nat} {ws : List Way} {S : List Int} {x : Way} (h : AOk L m ws S) (hx : ¬ (x.at_ < 0 ∨ (L.length : Int) ≤ x.at_ ∨ S.contains x.at_ = true)) (hm : x.ps.length = m) (p : Prop) [Decidable p] :
    AOk L m (if p then ws ++ [x] else ws) (x.at_ :: S) := by
  have h1 : ¬ x.at_ < 0 := fun e => hx (.inl e)
  have h2 : ¬ (L.length : Int) ≤ x.at_ := fun e => hx (.inr (.inl e))
  have h3 : ¬ x.at_ ∈ S := fun e => hx (.inr (.inr (by simpa using e)))
  refine ⟨⟨List.nodup_cons.2 ⟨h3, h.so.nd⟩, fun y hy => ?_⟩, fun y hy => ?_, ?_⟩
  · rcases List.mem_cons.1 hy with rfl | hy
    · omega
    · exact h.so.rg y hy
  · split at hy
    · rcases List.mem_append.1 hy with hy | hy
      · exact h.wy y hy
      · simp at hy; subst hy; exact ⟨by omega, by omega, hm⟩
    · exact h.wy y hy
  · have := h.le
    split
    · simp; omega
    · simp; omega
theorem addsF_ok (L : List Ins) (tl place m : Nat) : ∀ (f : Nat) (todo ws : List Way) (S : List Int) (R : List Way × List Int), addsF L tl place f todo ws S = some R → AOk L m ws S → (∀ y ∈ todo, y.ps.length = m) → AOk L m R.1 R.2
  | 0, todo, ws, S, R, h, hA, ht => by
    unfold addsF at h
    split at h
    · injection h with h; subst h; exact hA
    · cases h
  | f + 1, [], ws, S, R, h, hA, ht => by
    unfold addsF at h
    injection h with h; subst h; exact hA
  | f + 1, x :: rest, ws, S, R, h, hA, ht => by
    rw [addsF_eq] at h
    split at h
    · exact addsF_ok L tl place m f rest ws S R h hA (fun y hy => ht y (by simp [hy]))
    · rename_i hx
      split at h
      · cases h
      · refine addsF_ok L tl place m f _ _ _ R h (hA.step hx (ht x (by simp)) _) (fun y hy => ?_)
        rcases List.mem_append.1 hy with hy | hy
        · rw [pushT_ps _ _ _ _ y hy]; exact ht x (by simp)
        · exact ht y (by simp [hy])
theorem addsF_total (L : List Ins) (tl place m : Nat) : ∀ (f : Nat) (todo ws : List Way) (S : List Int), AOk L m ws S → (∀ y ∈ todo, y.ps.length = m) → todo.length + 2 * (L.length - S.length) ≤ f → ∃ R, addsF L tl place f todo ws S = some R
  | 0, todo, ws, S, hA, ht, hf => by
    have : todo = [] := List.eq_nil_of_length_eq_zero (by omega)
    subst this
    exact ⟨_, rfl⟩
  | f + 1, [], ws, S, hA, ht, hf => ⟨_, rfl⟩
  | f + 1, x :: rest, ws, S, hA, ht, hf => by
    rw [addsF_eq]
    simp only [List.length_cons] at hf
    split
    · exact addsF_total L tl place m f rest ws S hA (fun y hy => ht y (by simp [hy])) (by omega)
    · rename_i hx
      have h1 : ¬ x.at_ < 0 := fun e => hx (.inl e)
      have h2 : ¬ (L.length : Int) ≤ x.at_ := fun e => hx (.inr (.inl e))
      have hl : x.at_.toNat < L.length := by omega
      rw [List.getElem?_eq_getElem hl]
      have hN := hA.step hx (ht x (by simp)) (L[x.at_.toNat].op = 1 ∨ L[x.at_.toNat].op = 7)
      refine addsF_total L tl place m f _ _ _ hN (fun y hy => ?_) ?_
      · rcases List.mem_append.1 hy with hy | hy
        · rw [pushT_ps _ _ _ _ y hy]; exact ht x (by simp)
        · exact ht y (by simp [hy])
      · have h3 := pushT_len L[x.at_.toNat] x tl place
        have h4 := hN.so.len
        simp only [List.length_cons, List.length_append] at h4 ⊢
        omega
/-- rounds enough -/
def fuelA (L : List Ins) : Nat := 2 * L.length + 1
theorem addsF_one (L : List Ins) (tl place m : Nat) (x : Way) (ws : List Way) (S : List Int) (hA : AOk L m ws S) (hx : x.ps.length = m) : ∃ R, addsF L tl place (fuelA L) [x] ws S = some R ∧ AOk L m R.1 R.2 := by
  have ht : ∀ y ∈ [x], y.ps.length = m := fun y hy => by simp at hy; subst hy; exact hx
  obtain ⟨R, hR⟩ := addsF_total L tl place m (fuelA L) [x] ws S hA ht (by unfold fuelA; simp; omega)
  exact ⟨R, hR, addsF_ok L tl place m _ _ _ _ R hR hA ht⟩
/-- the ways behind a byte -/
def stepF (L : List Ins) (tx : ByteArray) (place : Nat) : List Way → List Way → List Int → Option (List Way × List Int × Option (List Int))
  | [], ws, S => some (ws, S, none)
  | x :: rest, ws, S => match L[x.at_.toNat]? with
    | none => none
    | some i =>
      if i.op = 7 then some (ws, S, some x.ps)
      else if place < tx.size ∧ hasF i.ps (by_ tx place) = true then
        match addsF L tx.size (place + 1) (fuelA L) [⟨x.ps, x.at_ + 1⟩] ws S with
        | none => none
        | some r => stepF L tx place rest r.1 r.2
      else stepF L tx place rest ws S
/-- Find's loop: so many places are left -/
def findG (L : List Ins) (tx : ByteArray) (nw : List Int) : Nat → List Way → List Int → Option (List Int) → Option (Option (List Int))
  | 0, _, _, fd => some fd
  | k + 1, ws, S, fd =>
    match (if fd.isNone then addsF L tx.size (tx.size - k) (fuelA L) [⟨nw, 0⟩] ws S else some (ws, S)) with
    | none => none
    | some (ws1, S1) =>
      if ws1.isEmpty && fd.isSome then some fd
      else match stepF L tx (tx.size - k) ws1 [] [] with
        | none => none
        | some (ws2, S2, mt) => findG L tx nw k ws2 S2 (if mt.isSome then mt else fd)
/-- pike.Find -/
def findF (gr : Int) (L : List Ins) (tx : ByteArray) (from_ : Int) : Option (Option (List Int)) :=
  if from_ < 0 ∨ (tx.size : Int) < from_ ∨ gr < 0 ∨ 1024 < gr then some none
  else findG L tx (List.replicate (2 * gr.toNat + 2) (-1)) (tx.size + 1 - from_.toNat) [] [] none
end Go.Proofs.Ytldcbkememonaaa

namespace Go.Proofs.Ytldcbkememonaaa
open Go.RowKit
set_option linter.unusedVariables false
set_option linter.unusedSimpArgs false

/-- a program's numbers are fit -/
structure LOk (L : List Ins) : Prop where
  wf : ∀ i ∈ L, wf64 i.x ∧ wf64 i.y
  ps : ∀ i ∈ L, i.ps.size ≤ 100000
  len : L.length ≤ 100000
theorem FrL.below {bl mb B : Nat} {lv : Value} {w w' : World} (h : FrL bl mb lv w w') (h1 : B ≤ bl) (h2 : B ≤ mb) (h3 : ∀ g, lv.ownBlock = some g → B ≤ g) (hB : B ≤ w.heap.size) : Below B w w' :=
  ⟨h.os, h.tape, h.output, h.size, fun k hk => h.block k (by omega) (by omega) (by omega) (fun e => by have := h3 k e.symm; omega)⟩
/-- what 'adds' leaves -/
def AddsP (B bl mb : Nat) (R : List Way × List Int) (w : World) (e : Ending) (w' : World) : Prop := e = .returned (.tuple #[]) ∧ ∃ lv', ListAt B w' bl R.1 R.2 lv' mb ∧ Below B w w' ∧ IntsStay w w'
theorem adds_low (B m : Nat) (L : List Ins) (tx : ByteArray) (place : Nat) (x0 : Way) (ws : List Way) (S : List Int) (R : List Way × List Int) (hR : addsF L tx.size place (fuelA L) [x0] ws S = some R) (w : World) (bw bl mb g o : Nat) (lv pv : Value) (gr : Int) (a : Option Addr) (c : Nat)
    (hp : ProgAt w bw L g o tx gr a c) (hb : bw < B) (hg : 0 < L.length → g < B) (hl : ListAt B w bl ws S lv mb) (hpv : IntsIn x0.ps pv w) (hx0 : wf64 x0.at_) (LO : LOk L) (hA : AOk L m ws S) (hm : x0.ps.length ≤ 100000) (hpl : place ≤ 100000) (htx : tx.size ≤ 100000) :
    Calls Try.prog 30 #[.pointer (some ⟨bw, 0, none⟩), .pointer (some ⟨bl, 0, none⟩), .agg #[pv, .int .i64 x0.at_], .int .i64 place] w (AddsP B bl mb R w) := by
  have h1 := hl.lo
  have h2 := hl.lm
  have h3 : ∀ q, lv.ownBlock = some q → B ≤ q := fun q hq => by
    obtain ⟨cs, ho, _⟩ := hl.own
    exact (ho.lt q hq).1
  have h4 := lt_blk hl.blk
  have h5 := LO.len
  have h6 := hA.so.len
  have h7 := hA.le
  refine (adds_any B (fuelA L) L tx.size place x0 ws S R hR w bw bl mb g o lv pv tx gr a c hp rfl hl hpv hx0 LO.wf LO.len (by unfold fuelA; omega) (by unfold fuelA; omega)
    ⟨by omega, by omega, by omega, fun e => by have := h3 bw e.symm; omega⟩ (fun h0 => ⟨by have := hg h0; omega, by have := hg h0; omega, fun e => by have := h3 g e.symm; have := hg h0; omega⟩) hpl htx hm).mono ?_
  rintro e w' ⟨rfl, lv', h8, h9, _⟩
  exact ⟨rfl, lv', h8, h9.below h1 h2 h3 (by omega), h9.ints⟩
theorem ListAt.grow {B0 bl mb : Nat} {w w' : World} {ws : List Way} {S : List Int} {lv : Value} (h : ListAt B0 w bl ws S lv mb) (hb : Grow w w') : ListAt B0 w' bl ws S lv mb := by
  obtain ⟨cs, ho, hc⟩ := h.own
  exact ⟨(Below.block hb _ (lt_blk h.blk)).trans h.blk, ⟨cs, own_grow ho hb, hc.stay (IntsStay.grow hb)⟩, h.seen.kept (Below.block hb _ h.seen.lt), h.lo, h.lm⟩
theorem ProgAt.below {B bw g o c : Nat} {w w' : World} {L : List Ins} {tx : ByteArray} {gr : Int} {a : Option Addr} (h : ProgAt w bw L g o tx gr a c) (hb : Below B w w') (h1 : bw < B) (h2 : 0 < L.length → g < B) : ProgAt w' bw L g o tx gr a c :=
  ⟨(hb.block _ h1).trans h.blk, h.rd.below hb (fun hne => h2 (by cases L with | nil => exact absurd rfl hne | cons => simp)), h.ad⟩
/-- a list that is new -/
theorem list_new (w : World) : ListAt w.heap.size ((w.alloc (.map #[] 0)).alloc (.cells #[.slice none 0 0, .map (some w.heap.size)] 67)) (w.heap.size + 1) [] [] (.slice none 0 0) w.heap.size := by
  have h1 := heap_alloc_new (w.alloc (.map #[] 0)) (.cells #[.slice none 0 0, .map (some w.heap.size)] 67)
  refine ⟨by simpa using h1, ⟨[], World.ownsRow_nil _ _ _ _, .nil⟩, (seen_new w).kept ?_, by omega, Nat.le_refl _⟩
  exact heap_alloc_old _ _ (by simp)
/-- what step found -/
def FV (w : World) (fv : Value) : Option (List Int) → Prop
  | none => fv = .slice none 0 0
  | some ps => IntsIn ps fv w
def StepP (R : List Way × List Int × Option (List Int)) (w : World) (e : Ending) (w' : World) : Prop :=
  ∃ bl mb lv fv, e = .returned (.tuple #[.pointer (some ⟨bl, 0, none⟩), fv, .bool R.2.2.isSome]) ∧ ListAt w.heap.size w' bl R.1 R.2.1 lv mb ∧ Grow w w' ∧ FV w' fv R.2.2
theorem stepF_ok (L : List Ins) (tx : ByteArray) (place m : Nat) : ∀ (ws0 ws : List Way) (S : List Int) (R : List Way × List Int × Option (List Int)), stepF L tx place ws0 ws S = some R → AOk L m ws S → (∀ y ∈ ws0, y.ps.length = m) → AOk L m R.1 R.2.1 ∧ ∀ ps, R.2.2 = some ps → ps.length = m
  | [], ws, S, R, h, hA, ht => by
    unfold stepF at h
    injection h with h; subst h
    exact ⟨hA, fun ps h => by cases h⟩
  | x :: rest, ws, S, R, h, hA, ht => by
    have hr : ∀ y ∈ rest, y.ps.length = m := fun y hy => ht y (by simp [hy])
    unfold stepF at h
    split at h
    · cases h
    · split at h
      · injection h with h; subst h
        exact ⟨hA, fun ps h => by injection h with h; subst h; exact ht x (by simp)⟩
      · split at h
        · split at h
          · cases h
          · rename_i r hr1
            obtain ⟨R', h1, h2⟩ := addsF_one L tx.size (place + 1) m ⟨x.ps, x.at_ + 1⟩ ws S hA (ht x (by simp))
            rw [hr1] at h1
            injection h1 with h1
            subst h1
            exact stepF_ok L tx place m rest _ _ R h h2 hr
        · exact stepF_ok L tx place m rest _ _ R h hA hr
theorem stepF_total (L : List Ins) (tx : ByteArray) (place m : Nat) : ∀ (ws0 ws : List Way) (S : List Int), AOk L m ws S → (∀ y ∈ ws0, 0 ≤ y.at_ ∧ y.at_ < (L.length : Int) ∧ y.ps.length = m) → ∃ R, stepF L tx place ws0 ws S = some R
  | [], ws, S, hA, ht => ⟨_, rfl⟩
  | x :: rest, ws, S, hA, ht => by
    have hr : ∀ y ∈ rest, 0 ≤ y.at_ ∧ y.at_ < (L.length : Int) ∧ y.ps.length = m := fun y hy => ht y (by simp [hy])
    have hx := ht x (by simp)
    unfold stepF
    rw [List.getElem?_eq_getElem (show x.at_.toNat < L.length by omega)]
    simp only
    split
    · exact ⟨_, rfl⟩
    · split
      · obtain ⟨R', h1, h2⟩ := addsF_one L tx.size (place + 1) m ⟨x.ps, x.at_ + 1⟩ ws S hA hx.2.2
        rw [h1]
        exact stepF_total L tx place m rest _ _ h2 hr
      · exact stepF_total L tx place m rest _ _ hA hr
end Go.Proofs.Ytldcbkememonaaa
