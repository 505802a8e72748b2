/-
  What whead.Decode's loop keeps, and what its end means: plain.
-/
import Derived.Test.YtcfcdajglfipeaaDec1
namespace Go.Proofs.Ytcfcdajglfipeaa
open Go.RowKit

def lenAt (w : World) (b j : Nat) : Nat := match w.cell? ⟨b, j, none⟩ with | some (.slice _ n _) => n | _ => 0
def DecPost (xs : List Value) (w : World) (e : Ending) (w' : World) : Prop :=
  (DecOk xs ∧ ∃ ao cc, e = .returned (.tuple #[.agg #[.int .i64 (nm xs 0), .int .i64 (nm xs 8), .slice ao (nm xs 12).toNat cc], .int .i64 0]) ∧
    Hd w' ao (nm xs 12).toNat cc (arcs xs (nm xs 12).toNat) ∧ Below w.heap.size w w') ∨
  (¬ DecOk xs ∧ e = .returned (.tuple #[.agg #[.int .i64 0, .int .i64 0, .slice none 0 0], .int .i64 2]) ∧ Below w.heap.size w w')
/-- the loop's relation -/
def LRel (xs : List Value) (g o c R : Nat) (W0 : World) (A X nn : Int) (wr : World) : Prop :=
  ∃ m bad v2 l, St xs g o c R W0 m bad (.int .i64 A) (.int .i64 X) v2 l wr ∧ (bad = false → m = 4 + 3 * l.length ∧ 16 + 12 * l.length ≤ xs.length ∧ l = arcs xs l.length) ∧ (l ≠ [] → (l.length : Int) ≤ nn ∧ nn ≤ 8) ∧
    (bad = true → xs.length < 16 ∨ (xs.length : Int) < 16 + 12 * nn)

theorem first4 (xs : List Value) : (16 ≤ xs.length → nv xs 0 = nm xs 0 ∧ nv xs (nxt xs (nxt xs 0)) = nm xs 8 ∧ nv xs (nxt xs (nxt xs (nxt xs 0))) = nm xs 12 ∧ nxt xs (nxt xs (nxt xs (nxt xs 0))) = 4 ∧
      nb xs (nxt xs (nxt xs (nxt xs 0))) (nb xs (nxt xs (nxt xs 0)) (nb xs (nxt xs 0) (nb xs 0 false))) = false) ∧
    (xs.length < 16 → nv xs (nxt xs (nxt xs (nxt xs 0))) = 0 ∧ nb xs (nxt xs (nxt xs (nxt xs 0))) (nb xs (nxt xs (nxt xs 0)) (nb xs (nxt xs 0) (nb xs 0 false))) = true) := by
  refine ⟨fun h => ?_, fun h => ?_⟩
  · have e0 : nxt xs 0 = 1 := if_pos (by omega)
    have e1 : nxt xs 1 = 2 := if_pos (by omega)
    have e2 : nxt xs 2 = 3 := if_pos (by omega)
    have e3 : nxt xs 3 = 4 := if_pos (by omega)
    rw [e0, e1, e2, e3]
    exact ⟨if_pos (by omega), if_pos (by omega), if_pos (by omega), rfl, by simp only [nb]; rw [if_pos (by omega), if_pos (by omega), if_pos (by omega), if_pos (by omega)]⟩
  · have key : xs.length < 4 * nxt xs (nxt xs (nxt xs 0)) + 4 := by
      have : ∀ m, nxt xs m = m + 1 ∨ (nxt xs m = m ∧ xs.length < 4 * m + 4) := fun m => by unfold nxt; split <;> omega
      rcases this 0 with h0 | ⟨h0, h1⟩
      · rcases this 1 with h2 | ⟨h2, h3⟩
        · rcases this 2 with h4 | ⟨h4, h5⟩
          · rw [h0, h2, h4]; omega
          · rw [h0, h2, h4]; omega
        · rw [h0, h2, h2]; omega
      · rw [h0, h0, h0]; omega
    exact ⟨if_neg (by omega), if_neg (by omega)⟩
theorem next3 (xs : List Value) (k m : Nat) (hm : m = 4 + 3 * k) (hk : 16 + 12 * k ≤ xs.length) :
    (16 + 12 * (k + 1) ≤ xs.length → (nv xs (nxt xs m), nv xs (nxt xs (nxt xs m))) = arc1 xs k ∧ nxt xs (nxt xs (nxt xs m)) = 4 + 3 * (k + 1) ∧ nb xs (nxt xs (nxt xs m)) (nb xs (nxt xs m) (nb xs m false)) = false) ∧
    (¬ 16 + 12 * (k + 1) ≤ xs.length → nb xs (nxt xs (nxt xs m)) (nb xs (nxt xs m) (nb xs m false)) = true) := by
  subst hm
  refine ⟨fun h => ?_, fun h => ?_⟩
  · have e0 : nxt xs (4 + 3 * k) = 5 + 3 * k := (if_pos (by omega)).trans (by omega)
    have e1 : nxt xs (5 + 3 * k) = 6 + 3 * k := (if_pos (by omega)).trans (by omega)
    have e2 : nxt xs (6 + 3 * k) = 4 + 3 * (k + 1) := (if_pos (by omega)).trans (by omega)
    rw [e0, e1, e2]
    refine ⟨?_, rfl, by simp only [nb]; rw [if_pos (by omega), if_pos (by omega), if_pos (by omega)]⟩
    simp only [nv, arc1]
    rw [if_pos (by omega), if_pos (by omega), show 4 * (5 + 3 * k) = 20 + 12 * k from by omega, show 4 * (6 + 3 * k) = 24 + 12 * k from by omega]
  · have this : ∀ m, nxt xs m = m + 1 ∨ (nxt xs m = m ∧ xs.length < 4 * m + 4) := fun m => by unfold nxt; split <;> omega
    refine if_neg ?_
    rcases this (4 + 3 * k) with h0 | ⟨h0, h1⟩
    · rcases this (4 + 3 * k + 1) with h2 | ⟨h2, h3⟩
      · rw [h0, h2]; omega
      · rw [h0, h2]; omega
    · rw [h0, h0]; omega
theorem own_shape {w : World} {B n size : Nat} {e : TypeId} {v : Value} {xs : List Value} (h : w.ownsRow B e size v n xs) : ∃ a cap, v = .slice a n cap ∧ n ≤ cap := by
  rcases h.2 with ⟨h1, h2⟩ | ⟨g, cap, cur, h1, _, _, h2, _⟩
  · exact ⟨none, 0, by rw [h1, h2], by omega⟩
  · exact ⟨_, cap, h1, h2⟩

theorem own_cap {w : World} {B n cap size : Nat} {e : TypeId} {a : Option Addr} {xs : List Value} (h : w.ownsRow B e size (.slice a n cap) n xs) : n ≤ cap := by
  obtain ⟨_, c, h1, h2⟩ := own_shape h
  injection h1 with _ _ h3
  omega
theorem hd_own {W : World} {B : Nat} {av : Option Addr} {cv : Nat} {l : List (Int × Int)} (h : W.ownsRow B 28 2 (.slice av l.length cv) l.length (cells2 l)) (hu : InU l) : Hd W av l.length cv l := by
  have h0 := h
  rcases h.2 with ⟨h1, h2⟩ | ⟨q, cap, cur, h1, _, _, h2, _⟩
  · obtain rfl : l = [] := List.eq_nil_of_length_eq_zero h2
    injection h1 with h1 h3 h4
    subst h1 h4
    exact hd_nil W
  · injection h1 with h1 h3 h4
    subst h1 h4
    exact hd_of_own h0 rfl hu h2
theorem St.hd {xs : List Value} {g o c R m : Nat} {W0 W : World} {bad : Bool} {v0 v1 : Value} {av : Option Addr} {cv : Nat} {l : List (Int × Int)} (h : St xs g o c R W0 m bad v0 v1 (.slice av l.length cv) l W) : Hd W av l.length cv l := hd_own h.own h.lu
theorem decpost_yes {xs : List Value} {w w' : World} {A X : Int} {l : List (Int × Int)} {av : Option Addr} {cv : Nat} (D : DecOk xs ∧ A = nm xs 0 ∧ X = nm xs 8 ∧ l.length = (nm xs 12).toNat ∧ l = arcs xs (nm xs 12).toNat)
    (hd : Hd w' av l.length cv l) (hb : Below w.heap.size w w') : DecPost xs w (.returned (.tuple #[.agg #[.int .i64 A, .int .i64 X, .slice av l.length cv], .int .i64 0])) w' := by
  obtain ⟨h1, h2, h3, h4, h5⟩ := D
  refine .inl ⟨h1, av, cv, by rw [h2, h3, h4], ?_, hb⟩
  rw [← h5, ← h4]
  exact hd
theorem be4_u8 {n : Int} (h : U32 n) : AllU8 (be4 n) := fun u hu => by
  obtain ⟨h0, h1⟩ := h
  simp only [be4, List.mem_cons, List.not_mem_nil, or_false] at hu
  rcases hu with rfl | rfl | rfl | rfl <;> exact ⟨_, rfl, by omega, by omega⟩
theorem bytesOf_u8 : ∀ {l : List Int}, (∀ n ∈ l, U32 n) → AllU8 (bytesOf l)
  | [], _ => fun u hu => by simp [bytesOf] at hu
  | n :: r, h => fun u hu => by
    simp only [bytesOf, List.mem_append] at hu
    rcases hu with hu | hu
    · exact be4_u8 (h n (by simp)) u hu
    · exact bytesOf_u8 (fun m hm => h m (by simp [hm])) u hu
theorem hdB_u8 {g x : Int} {l : List (Int × Int)} (hm : May g x l) : AllU8 (hdB g x l) := bytesOf_u8 (nsTo_in hm _ (Nat.le_refl _))
theorem rdB_own {w : World} {B gg cc n : Nat} {ys : List Value} (h : w.ownsRow B 5 1 (.slice (some ⟨gg, 0, none⟩) n cc) n ys) (hu : AllU8 ys) (hc : n ≤ cc) : RdB ys gg 0 cc w := by
  have hl : ys.length = n := by have := h.1; omega
  refine ⟨hu, by omega, (h.lt gg rfl).2, fun j u hj => ?_⟩
  have hjl : j < ys.length := by
    rcases Nat.lt_or_ge j ys.length with h1 | h1
    · exact h1
    · rw [List.getElem?_eq_none h1] at hj; cases hj
  rw [Nat.zero_add, h.cellAt j (by omega), hj]
theorem dec_no {xs : List Value} {A X nn : Int} {m4 : Nat} {bd bad : Bool} {l : List (Int × Int)}
    (F4 : (16 ≤ xs.length → A = nm xs 0 ∧ X = nm xs 8 ∧ nn = nm xs 12 ∧ m4 = 4 ∧ bd = false) ∧ (xs.length < 16 → nn = 0 ∧ bd = true))
    (hb : bad = false → l = arcs xs l.length) (hbt : bad = true → xs.length < 16 ∨ (xs.length : Int) < 16 + 12 * nn) (hk : bad = false → 1 ≤ nn → nn ≤ 8 → (l.length : Int) = nn)
    (hm : ¬ May A X l ∨ bad = true ∨ eqB (xs.take (16 + 12 * l.length)) (hdB A X l) = false) : ¬ DecOk xs := by
  rintro ⟨h1, h2, h3, h4, h5, h6⟩
  obtain ⟨rfl, rfl, rfl, _, _⟩ := F4.1 h1
  cases bad with
  | true => rcases hbt rfl with h | h <;> omega
  | false =>
    have e := hb rfl
    have hl : l.length = (nm xs 12).toNat := by have := hk rfl h2 h3; omega
    rw [← hl, ← e] at h5
    rw [← hl, ← e] at h6
    rcases hm with hm | hm | hm
    · exact hm h5
    · cases hm
    · rw [h6] at hm; cases hm
theorem dec_yes {xs : List Value} {A X nn : Int} {m4 : Nat} {bd : Bool} {l : List (Int × Int)}
    (F4 : (16 ≤ xs.length → A = nm xs 0 ∧ X = nm xs 8 ∧ nn = nm xs 12 ∧ m4 = 4 ∧ bd = false) ∧ (xs.length < 16 → nn = 0 ∧ bd = true))
    (hb : l = arcs xs l.length) (h16 : 16 + 12 * l.length ≤ xs.length) (h1 : 1 ≤ nn) (h8 : nn ≤ 8) (hk : (l.length : Int) = nn)
    (hm : May A X l) (he : eqB (xs.take (16 + 12 * l.length)) (hdB A X l) = true) : DecOk xs ∧ A = nm xs 0 ∧ X = nm xs 8 ∧ l.length = (nm xs 12).toNat ∧ l = arcs xs (nm xs 12).toNat := by
  obtain ⟨rfl, rfl, rfl, _, _⟩ := F4.1 (by omega)
  have hl : l.length = (nm xs 12).toNat := by omega
  have e : l = arcs xs (nm xs 12).toNat := by rw [← hl]; exact hb
  refine ⟨⟨by omega, h1, h8, by omega, by rw [← e]; exact hm, by rw [← e, ← hl]; exact he⟩, rfl, rfl, hl, e⟩
/-- behind the round -/
theorem LRel.next {xs : List Value} {g o c R : Nat} {W0 w' : World} {A X nn S C : Int} {l : List (Int × Int)} {bad' : Bool} {m' : Nat} {v' : Value} (hlk : l = arcs xs l.length) (h16 : 16 + 12 * l.length ≤ xs.length)
    (hs : St xs g o c R W0 m' bad' (.int .i64 A) (.int .i64 X) v' (l ++ [(S, C)]) w') (hk : (l.length : Int) < nn) (h8 : nn ≤ 8)
    (N3 : (16 + 12 * (l.length + 1) ≤ xs.length → (S, C) = arc1 xs l.length ∧ m' = 4 + 3 * (l.length + 1) ∧ bad' = false) ∧ (¬ 16 + 12 * (l.length + 1) ≤ xs.length → bad' = true)) : LRel xs g o c R W0 A X nn w' := by
  refine ⟨m', bad', v', l ++ [(S, C)], hs, fun h => ?_, fun _ => ⟨by simp; omega, h8⟩, fun h => ?_⟩
  · by_cases h2 : 16 + 12 * (l.length + 1) ≤ xs.length
    · obtain ⟨e1, e2, _⟩ := N3.1 h2
      refine ⟨by simp; omega, by simp; omega, ?_⟩
      rw [List.length_append, List.length_singleton, arcs, ← hlk, e1]
    · rw [N3.2 h2] at h; cases h
  · right
    by_cases h2 : 16 + 12 * (l.length + 1) ≤ xs.length
    · rw [(N3.1 h2).2.2] at h; cases h
    · omega


/-- what is left of the call's own cells behind a call that only makes memory -/
theorem St.past {xs : List Value} {g o c R m : Nat} {W0 W w' : World} {bad : Bool} {v0 v1 v2 : Value} {l : List (Int × Int)} (h : St xs g o c R W0 m bad v0 v1 v2 l W) (hb : Below W.heap.size W w') :
    w'.cell? ⟨R + 1, 1, none⟩ = some (.bool bad) ∧ w'.cell? ⟨R + 1 + 1, 0, none⟩ = some v0 ∧ w'.cell? ⟨R + 1 + 1, 1, none⟩ = some v1 ∧ w'.cell? ⟨R + 1 + 1, 2, none⟩ = some v2 ∧ Below (R + 1) W0 w' := by
  have := h.sz
  exact ⟨(hb.cell (p := ⟨R + 1, 1, none⟩) (by simp; omega)).trans h.rd.1, (hb.cell (p := ⟨R + 1 + 1, 0, none⟩) (by simp; omega)).trans h.c0, (hb.cell (p := ⟨R + 1 + 1, 1, none⟩) (by simp; omega)).trans h.c1,
    (hb.cell (p := ⟨R + 1 + 1, 2, none⟩) (by simp; omega)).trans h.c2, h.bel.trans (hb.mono (by omega))⟩
end Go.Proofs.Ytcfcdajglfipeaa
