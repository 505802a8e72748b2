/-
  adds, all of it above a place in memory; the walk of pike's step.
-/
import Derived.Test.YtldcbkememonaaaE5
import Derived.Test.YtldcbkememonaaaF2
namespace Go.Proofs.Ytldcbkememonaaa
open Go.RowKit
set_option linter.unusedVariables false
set_option linter.unusedSimpArgs false

/-- a program's numbers are fit -/
structure LOk (L : List Ins) : Prop where
  wf : ∀ i ∈ L, wf64 i.x ∧ wf64 i.y
  ps : ∀ i ∈ L, i.ps.size ≤ 100000
  len : L.length ≤ 100000
theorem FrL.below {bl mb B : Nat} {lv : Value} {w w' : World} (h : FrL bl mb lv w w') (h1 : B ≤ bl) (h2 : B ≤ mb) (h3 : ∀ g, lv.ownBlock = some g → B ≤ g) (hB : B ≤ w.heap.size) : Below B w w' :=
  ⟨h.os, h.tape, h.output, h.size, fun k hk => h.block k (by omega) (by omega) (by omega) (fun e => by have := h3 k e.symm; omega)⟩
/-- what 'adds' leaves -/
def AddsP (B bl mb : Nat) (R : List Way × List Int) (w : World) (e : Ending) (w' : World) : Prop := e = .returned (.tuple #[]) ∧ ∃ lv', ListAt B w' bl R.1 R.2 lv' mb ∧ Below B w w' ∧ IntsStay w w'
theorem adds_low (B m : Nat) (L : List Ins) (tx : ByteArray) (place : Nat) (x0 : Way) (ws : List Way) (S : List Int) (R : List Way × List Int) (hR : addsF L tx.size place (fuelA L) [x0] ws S = some R) (w : World) (bw bl mb g o : Nat) (lv pv : Value) (gr : Int) (a : Option Addr) (c : Nat)
    (hp : ProgAt w bw L g o tx gr a c) (hb : bw < B) (hg : 0 < L.length → g < B) (hl : ListAt B w bl ws S lv mb) (hpv : IntsIn x0.ps pv w) (hx0 : wf64 x0.at_) (LO : LOk L) (hA : AOk L m ws S) (hm : x0.ps.length ≤ 100000) (hpl : place ≤ 100000) (htx : tx.size ≤ 100000) :
    Calls Try.prog 30 #[.pointer (some ⟨bw, 0, none⟩), .pointer (some ⟨bl, 0, none⟩), .agg #[pv, .int .i64 x0.at_], .int .i64 place] w (AddsP B bl mb R w) := by
  have h1 := hl.lo
  have h2 := hl.lm
  have h3 : ∀ q, lv.ownBlock = some q → B ≤ q := fun q hq => by
    obtain ⟨cs, ho, _⟩ := hl.own
    exact (ho.lt q hq).1
  have h4 := lt_blk hl.blk
  have h5 := LO.len
  have h6 := hA.so.len
  have h7 := hA.le
  refine (adds_any B (fuelA L) L tx.size place x0 ws S R hR w bw bl mb g o lv pv tx gr a c hp rfl hl hpv hx0 LO.wf LO.len (by unfold fuelA; omega) (by unfold fuelA; omega)
    ⟨by omega, by omega, by omega, fun e => by have := h3 bw e.symm; omega⟩ (fun h0 => ⟨by have := hg h0; omega, by have := hg h0; omega, fun e => by have := h3 g e.symm; have := hg h0; omega⟩) hpl htx hm).mono ?_
  rintro e w' ⟨rfl, lv', h8, h9, _⟩
  exact ⟨rfl, lv', h8, h9.below h1 h2 h3 (by omega), h9.ints⟩
theorem ListAt.grow {B0 bl mb : Nat} {w w' : World} {ws : List Way} {S : List Int} {lv : Value} (h : ListAt B0 w bl ws S lv mb) (hb : Grow w w') : ListAt B0 w' bl ws S lv mb := by
  obtain ⟨cs, ho, hc⟩ := h.own
  exact ⟨(Below.block hb _ (lt_blk h.blk)).trans h.blk, ⟨cs, own_grow ho hb, hc.stay (IntsStay.grow hb)⟩, h.seen.kept (Below.block hb _ h.seen.lt), h.lo, h.lm⟩
theorem ProgAt.below {B bw g o c : Nat} {w w' : World} {L : List Ins} {tx : ByteArray} {gr : Int} {a : Option Addr} (h : ProgAt w bw L g o tx gr a c) (hb : Below B w w') (h1 : bw < B) (h2 : 0 < L.length → g < B) : ProgAt w' bw L g o tx gr a c :=
  ⟨(hb.block _ h1).trans h.blk, h.rd.below hb (fun hne => h2 (by cases L with | nil => exact absurd rfl hne | cons => simp)), h.ad⟩
/-- a list that is new -/
theorem list_new (w : World) : ListAt w.heap.size ((w.alloc (.map #[] 0)).alloc (.cells #[.slice none 0 0, .map (some w.heap.size)] 67)) (w.heap.size + 1) [] [] (.slice none 0 0) w.heap.size := by
  have h1 := heap_alloc_new (w.alloc (.map #[] 0)) (.cells #[.slice none 0 0, .map (some w.heap.size)] 67)
  refine ⟨by simpa using h1, ⟨[], World.ownsRow_nil _ _ _ _, .nil⟩, (seen_new w).kept ?_, by omega, Nat.le_refl _⟩
  exact heap_alloc_old _ _ (by simp)
/-- what step found -/
def FV (w : World) (fv : Value) : Option (List Int) → Prop
  | none => fv = .slice none 0 0
  | some ps => IntsIn ps fv w
def StepP (R : List Way × List Int × Option (List Int)) (w : World) (e : Ending) (w' : World) : Prop :=
  ∃ bl mb lv fv, e = .returned (.tuple #[.pointer (some ⟨bl, 0, none⟩), fv, .bool R.2.2.isSome]) ∧ ListAt w.heap.size w' bl R.1 R.2.1 lv mb ∧ Grow w w' ∧ FV w' fv R.2.2
theorem stepF_ok (L : List Ins) (tx : ByteArray) (place m : Nat) : ∀ (ws0 ws : List Way) (S : List Int) (R : List Way × List Int × Option (List Int)), stepF L tx place ws0 ws S = some R → AOk L m ws S → (∀ y ∈ ws0, y.ps.length = m) → AOk L m R.1 R.2.1 ∧ ∀ ps, R.2.2 = some ps → ps.length = m
  | [], ws, S, R, h, hA, ht => by
    unfold stepF at h
    injection h with h; subst h
    exact ⟨hA, fun ps h => by cases h⟩
  | x :: rest, ws, S, R, h, hA, ht => by
    have hr : ∀ y ∈ rest, y.ps.length = m := fun y hy => ht y (by simp [hy])
    unfold stepF at h
    split at h
    · cases h
    · split at h
      · injection h with h; subst h
        exact ⟨hA, fun ps h => by injection h with h; subst h; exact ht x (by simp)⟩
      · split at h
        · split at h
          · cases h
          · rename_i r hr1
            obtain ⟨R', h1, h2⟩ := addsF_one L tx.size (place + 1) m ⟨x.ps, x.at_ + 1⟩ ws S hA (ht x (by simp))
            rw [hr1] at h1
            injection h1 with h1
            subst h1
            exact stepF_ok L tx place m rest _ _ R h h2 hr
        · exact stepF_ok L tx place m rest _ _ R h hA hr
theorem stepF_total (L : List Ins) (tx : ByteArray) (place m : Nat) : ∀ (ws0 ws : List Way) (S : List Int), AOk L m ws S → (∀ y ∈ ws0, 0 ≤ y.at_ ∧ y.at_ < (L.length : Int) ∧ y.ps.length = m) → ∃ R, stepF L tx place ws0 ws S = some R
  | [], ws, S, hA, ht => ⟨_, rfl⟩
  | x :: rest, ws, S, hA, ht => by
    have hr : ∀ y ∈ rest, 0 ≤ y.at_ ∧ y.at_ < (L.length : Int) ∧ y.ps.length = m := fun y hy => ht y (by simp [hy])
    have hx := ht x (by simp)
    unfold stepF
    rw [List.getElem?_eq_getElem (show x.at_.toNat < L.length by omega)]
    simp only
    split
    · exact ⟨_, rfl⟩
    · split
      · obtain ⟨R', h1, h2⟩ := addsF_one L tx.size (place + 1) m ⟨x.ps, x.at_ + 1⟩ ws S hA hx.2.2
        rw [h1]
        exact stepF_total L tx place m rest _ _ h2 hr
      · exact stepF_total L tx place m rest _ _ hA hr
end Go.Proofs.Ytldcbkememonaaa
